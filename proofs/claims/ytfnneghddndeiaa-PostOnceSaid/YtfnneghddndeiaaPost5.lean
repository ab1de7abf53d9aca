/- POST 5: New. -/
import Derived.Test.YtfnneghddndeiaaPost4
import Derived.Maps.OwnOps
import Derived.Carry
namespace Go.Proofs.Ytfnneghddndeiaa
open Go.RowKit Go.Lib Go.Tk Go.Shelf Go.Maps
def csK (P : PostV) (k : Nat) : List Nat := (List.range k).filter fun c => P.other c
theorem csK_succ (P : PostV) (k : Nat) : csK P (k + 1) = csK P k ++ (if P.other k = true then [k] else []) := by
  unfold csK
  rw [List.range_succ, List.filter_append]
  congr 1
  by_cases h : P.other k = true
  · rw [if_pos h, List.filter_cons_of_pos (by simpa using h), List.filter_nil]
  · rw [if_neg h, List.filter_cons_of_neg (by simpa using h), List.filter_nil]
theorem putL_fresh {L : List (Int × Value)} {x : Int} {v : Value} (h : ∀ p ∈ L, p.1 ≠ x) : (putL L x v).Perm (L ++ [(x, v)]) := by
  unfold putL
  rw [List.filter_eq_self.2 (fun p hp => by simpa using h p hp)]
  exact List.perm_append_comm (l₁ := [(x, v)])
def bl (bx : Nat → Nat) (l : List Nat) : List (Int × Value) := l.map fun (c : Nat) => ((c : Int), .pointer (some ⟨bx c, 0, none⟩))
structure NewAt (w wx : World) (sf n : Int) (bx : Nat → Nat) (k : Nat) : Prop where
  head : Box wx (w.heap.size + 1) #[.int .u8 sf, .int .i64 n, .map (some w.heap.size)]
  map : MapAt u8K wx w.heap.size (bl bx (csK (newP sf n) k))
  box : ∀ c : Nat, c < k → (newP sf n).other c = true → Box wx (bx c) #[.slice none 0 0, .int .u64 0, .int .u64 0]
  lo : ∀ c : Nat, c < k → (newP sf n).other c = true → w.heap.size + 2 ≤ bx c
  inj : ∀ c d : Nat, c < k → d < k → (newP sf n).other c = true → (newP sf n).other d = true → c ≠ d → bx c ≠ bx d
  b : Below w.heap.size w wx
theorem NewAt.skip {w wx : World} {sf n : Int} {bx : Nat → Nat} {k : Nat} (h : NewAt w wx sf n bx k) (hk : (newP sf n).other k = false) : NewAt w wx sf n bx (k + 1) := by
  have hlt : ∀ c : Nat, c < k + 1 → (newP sf n).other c = true → c < k := fun c hc ho => by
    rcases Nat.lt_succ_iff_lt_or_eq.1 hc with h | rfl
    · exact h
    · rw [hk] at ho; cases ho
  refine ⟨h.head, ?_, fun c hc ho => h.box c (hlt c hc ho) ho, fun c hc ho => h.lo c (hlt c hc ho) ho, fun c d hc hd ho hp => h.inj c d (hlt c hc ho) (hlt d hd hp) ho hp, h.b⟩
  rw [csK_succ, if_neg (by rw [hk]; decide), List.append_nil]
  exact h.map
theorem NewAt.more {w wx w' : World} {sf n : Int} {bx : Nat → Nat} {k : Nat} (h : NewAt w wx sf n bx k) (hk : (newP sf n).other k = true) (E : TypeId)
    (hm : MapAt u8K w' w.heap.size (putL (bl bx (csK (newP sf n) k)) (k : Int) (.pointer (some ⟨wx.heap.size, 0, none⟩)))) (hg : (wx.alloc (.cells #[.slice none 0 0, .int .u64 0, .int .u64 0] E)).grownBy w' (some w.heap.size)) :
    NewAt w w' sf n (fun c => if c = k then wx.heap.size else bx c) (k + 1) := by
  have hs := h.b.size
  have hh := h.head.lt
  have keep : ∀ {b : Nat} {vs : Array Value}, Box wx b vs → w.heap.size + 1 ≤ b → Box w' b vs := fun hb hle => (hb.kept (below_alloc _ _)).grown hg (fun e => by have := Option.some.inj e; omega)
  refine ⟨keep h.head (Nat.le_refl _), ?_, ?_, ?_, ?_, (h.b.alloc h.b.size _).grown hg (by simp; omega) (fun g e => by cases e; exact Nat.le_refl _)⟩
  · refine hm.perm ((putL_fresh ?_).trans ?_)
    · intro p hp
      obtain ⟨c, hc, rfl⟩ := List.mem_map.1 hp
      have : c < k := List.mem_range.1 (List.mem_filter.1 hc).1
      show (c : Int) ≠ k
      omega
    · rw [csK_succ, if_pos hk]
      refine List.Perm.of_eq ?_
      unfold bl
      rw [List.map_append]
      congr 1
      · refine List.map_congr_left fun c hc => ?_
        have : c < k := List.mem_range.1 (List.mem_filter.1 hc).1
        show _ = ((c : Int), Value.pointer (some ⟨if c = k then wx.heap.size else bx c, 0, none⟩))
        rw [if_neg (by omega)]
      · simp
  · intro c hc ho
    by_cases hck : c = k
    · subst hck
      rw [if_pos rfl]
      exact (Box.new rfl).grown hg (fun e => by have := Option.some.inj e; omega)
    · rw [if_neg hck]
      have hlo := h.lo c (by omega) ho
      exact keep (h.box c (by omega) ho) (by omega)
  · intro c hc ho
    by_cases hck : c = k
    · rw [if_pos hck]; omega
    · rw [if_neg hck]; exact h.lo c (by omega) ho
  · intro c d hc hd ho hp hne
    by_cases hck : c = k
    · rw [if_pos hck, if_neg (by omega)]
      have := (h.box d (by omega) hp).lt
      omega
    · rw [if_neg hck]
      by_cases hdk : d = k
      · rw [if_pos hdk]
        have := (h.box c (by omega) ho).lt
        omega
      · rw [if_neg hdk]
        exact h.inj c d (by omega) (by omega) ho hp hne
theorem NewAt.post {w wx : World} {sf n : Int} {bx : Nat → Nat} (h : NewAt w wx sf n bx n.toNat) (_hn : 0 ≤ n) : PostIn wx w.heap.size ⟨w.heap.size + 1, w.heap.size, bx, fun _ => .slice none 0 0⟩ (newP sf n) := by
  have hlt : ∀ c : Nat, (newP sf n).other c = true → c < n.toNat := fun c ho => by
    unfold PostV.other at ho
    simp only [Bool.and_eq_true, decide_eq_true_eq] at ho
    have : (c : Int) < n := ho.1.2
    omega
  have noown : ∀ {g : Nat}, (Value.slice none 0 0).ownBlock ≠ some g := fun e => by cases e
  have foot : ∀ {b k : Nat}, boxFoot b (Value.slice none 0 0) k → k = b := fun hk => by
    rcases hk with h | h
    · exact h
    · exact absurd h noown
  refine ⟨h.head, h.map, fun c ho => ⟨h.box c (hlt c ho) ho, World.ownsRow_nil _ _ _ _, fun g e => absurd e noown, by have := h.lo c (hlt c ho) ho; show w.heap.size ≤ bx c; omega⟩, by show w.heap.size ≤ w.heap.size + 1; omega, Nat.le_refl _, by show w.heap.size + 1 ≠ w.heap.size; omega, ?_, ?_⟩
  · intro c ho k hk
    have := foot hk
    have := h.lo c (hlt c ho) ho
    show k ≠ w.heap.size + 1 ∧ k ≠ w.heap.size
    simp only at *
    omega
  · intro c d ho hp hne k hk hk2
    have e1 := foot hk
    have e2 := foot hk2
    exact h.inj c d (hlt c ho) (hlt d hp) ho hp hne (e1.symm.trans e2)
set_option maxRecDepth 100000 in
set_option maxHeartbeats 4000000 in
theorem new_yes (self n : Int) (w : World) (h0 : 0 ≤ self) (h1 : self ≤ 255) (hn : newE self n = 0) :
    Calls Try.prog 7 #[.int .u8 self, .int .i64 n] w fun e w' => ∃ A, e = .returned (.tuple #[.pointer (some ⟨A.pb, 0, none⟩), .int .i64 0]) ∧ PostIn w' w.heap.size A (newP self n) ∧ Below w.heap.size w w' := by
  have hb : 2 ≤ n ∧ n ≤ 8 ∧ self < n := by
    unfold newE at hn
    by_cases h : n < 2 ∨ 8 < n ∨ n ≤ self
    · rw [if_pos h] at hn; cases hn
    · omega
  obtain ⟨n0, n1, s1⟩ := hb
  clear hn
  have hw8 : IntKind.u8.wrap n = n := by rw [IntKind.wrap_u8]; omega
  have hmm : ∀ w, (Instr.makeMap 60 none).run Try.prog w = .ok (.map (some w.heap.size)) (w.alloc (.map #[] 0)) := fun w => run_makeMap _ w
  go_enter Try.func7, Try.ntmps7
  go_wp2
  go_loopw [27] (fun i wr => ∃ (k : Nat) (bx : Nat → Nat), (k : Int) ≤ n ∧ i = .int .u8 k ∧ Aside (NewAt w wr self n bx k)) (fun i _ => n.toNat - (RowKit.intOf i).toNat)
  case atStart =>
    refine ⟨0, fun _ => 0, by omega, rfl, ⟨?_, ?_, fun c hc => absurd hc (by omega), fun c hc => absurd hc (by omega), fun c d hc => absurd hc (by omega), ?_⟩⟩
    · exact Box.new (by simp)
    · exact (MapAt.made u8K w).kept (below_alloc _ _)
    · exact bt (below_alloc _ _) (below_alloc _ _)
  case round =>
    obtain ⟨k, bx, hk, rfl, S⟩ := hrel
    by_cases hlt : (k : Int) < n
    · have hd := S.out.head
      have c2 : wr.cell? ⟨w.heap.size + 1, 2, none⟩ = some (.map (some w.heap.size)) := hd.cell 2 rfl
      have lh := hd.lt
      have HM := hid S.out.map
      clear hd
      have hwk : IntKind.u8.wrap ((k : Int) + 1) = k + 1 := by rw [IntKind.wrap_u8]; omega
      by_cases hs : (k : Int) = self
      · have q : ((k : Int) != self) = false := by rw [hs]; simp
        have ho := hid (show (newP self n).other k = false by simp [PostV.other, newP, hs])
        go_wp2
        go_roundw
        case measure => simp [RowKit.intOf]; omega
        case rel => exact ⟨k + 1, bx, by omega, by first | rfl | go_num, S.out.skip ho.out⟩
      · have q : ((k : Int) != self) = true := by rw [bne_iff_ne]; exact hs
        have ho := hid (show (newP self n).other k = true by simp [PostV.other, newP, hs, hlt])
        have HWK := hid (show (Lit.int .u8 (k : Int)).wf = true by simp [Lit.wf, IntKind.min, IntKind.max, IntKind.signed, IntKind.bits]; omega)
        go_wp2_with (at_mapUpdate; refine wpList_mapUpdate_map (K := u8K) rfl _ _ _ 60 rfl Try.underlying60 rfl (HM.out.kept (below_alloc _ _)) (k : Int) HWK.out rfl _ rfl ?_; intro w4 hm4 hg4)
        have S4 := hid (S.out.more ho.out _ hm4 hg4)
        clear hm4 hg4 S HM
        go_roundw
        case measure => simp [RowKit.intOf]; omega
        case rel => exact ⟨k + 1, _, by omega, by first | rfl | go_num, S4.out⟩
    · obtain rfl : n = (k : Int) := by omega
      have F := hid (S.out.post (by omega))
      have B := hid S.out.b
      clear S
      go_wp2
      go_ret2
      exact ⟨_, rfl, F.out, B.out⟩
end Go.Proofs.Ytfnneghddndeiaa
