/- Pro1, Tick10. -/
import Derived.Test.YtlamaakconjkcaaGreatShare2
import Derived.Test.YtlamaakconjkcaaGreatMf8d58ad
import Derived.Deep.MidRow
section
namespace Go.Proofs.YtlamaakconjkcaaGreat
set_option maxRecDepth 100000
open Go.RowKit Go.Lib Go.Tk Go.Sort Go.Shelf

/-- what Share tells: a row -/
def ShareRow (t : Int) (ws : List Int) (w : World) (e : Ending) (w' : World) : Prop :=
  ∃ a cap, e = .returned (.tuple #[.slice a (shareV t ws).length cap, .int .i64 (shareE t ws)]) ∧ Row w' a ((shareV t ws).map (.int .i64)) ∧ Below w.heap.size w w' ∧ (shareV t ws).length ≤ maxLen

theorem share_row (t : Int) (ws : List Int) (a : Option Addr) (n cap : Nat) (w : World) (hn : ws.length = n) (hr : Row w a (ws.map (.int .u32))) (hp : PosRow ws) (hl : ws.length ≤ 9223372036854775807) :
    Calls Tryz.prog 97 #[.int .i64 t, .slice a n cap] w (ShareRow t ws w) := by
  subst hn
  refine (share_any t ws a cap w hr hp hl).mono ?_
  rintro e w' ⟨v, rfl, ho, hb, _⟩
  obtain ⟨a', cap', rfl, hr', hm⟩ := row_of_owns ho
  exact ⟨a', cap', rfl, hr', hb, hm⟩

theorem drewN_below (w : World) (n : Nat) : Below w.heap.size w (w.drewN n) := ⟨rfl, rfl, rfl, Nat.le_refl _, fun _ _ => rfl⟩

theorem list_ne_at {xs ys : List Int} {k : Nat} (h : xs.getD k 0 ≠ ys.getD k 0) : xs ≠ ys := by intro e; subst e; exact h rfl
theorem list_eq_of {xs ys : List Int} (hl : xs.length = ys.length) (h : ∀ j, j < xs.length → xs.getD j 0 = ys.getD j 0) : xs = ys := by
  refine List.ext_getElem hl fun i h1 h2 => ?_
  have := h i h1
  simpa [List.getD_eq_getElem?_getD, h1, h2] using this

set_option maxHeartbeats 1000000 in
theorem rsame6_any (a b : Option Addr) (n m ca cb : Nat) (xs ys : List Int) (w : World) (hn : xs.length = n) (hm : ys.length = m) (hx : Row w a (xs.map (.int .i64))) (hy : Row w b (ys.map (.int .i64))) (hl : n ≤ 9223372036854775807) (hl2 : m ≤ 9223372036854775807) :
    Calls Tryz.prog 69 #[.slice a n ca, .slice b m cb] w fun e w' => e = .returned (.bool (decide (xs = ys))) ∧ Below w.heap.size w w' := by
  subst hn
  have HX := hid hx
  have HY := hid hy
  clear hx hy
  by_cases hne : xs.length = m
  · subst hne
    have HM := hid hm
    clear hm
    go_enter Tryz.func69, Tryz.ntmps69
    go_wp2
    go_loopw [5] (fun s5 wr => ∃ k : Nat, k ≤ xs.length ∧ s5 = .int .i64 k ∧ Aside (∀ j, j < k → xs.getD j 0 = ys.getD j 0) ∧ Aside (Below w.heap.size w wr)) (fun i _ => xs.length - (RowKit.intOf i).toNat)
    case atStart => exact ⟨0, Nat.zero_le _, rfl, fun j hj => absurd hj (Nat.not_lt_zero _), Below.refl _ _⟩
    case round =>
      obtain ⟨k, hk, rfl, hj, hb⟩ := hrel
      by_cases hlt : k < xs.length
      · obtain ⟨bx, ox, rfl, hcx⟩ := (HX.out.kept hb.out).int k hlt
        obtain ⟨by', oy, rfl, hcy⟩ := (HY.out.kept hb.out).int k (by rw [HM.out]; exact hlt)
        have p0 : (0 : Int) ≤ (k : Int) := by omega
        have p1 : (k : Int) < (xs.length : Int) := by omega
        have HS := hid (show xs.getD k 0 = xs.getD k 0 from rfl)
        by_cases he : xs.getD k 0 = ys.getD k 0
        · have hj2 : Aside (∀ j, j < k + 1 → xs.getD j 0 = ys.getD j 0) := fun j hj' => by
            rcases Nat.lt_or_eq_of_le (Nat.lt_succ_iff.1 hj') with h | h
            · exact hj.out j h
            · rw [h]; exact he
          rw [← he] at hcy
          clear he HS hj
          generalize xs.getD k 0 = x at hcx hcy
          go_wp2_with fail
          go_region
          go_wp2
          go_roundw
          case measure => simp [RowKit.intOf]; omega
          case rel => exact ⟨k + 1, by omega, by go_num, hj2, hb.out.drew⟩
        · have hF := hid (list_ne_at he)
          generalize xs.getD k 0 = x at hcx he
          generalize ys.getD k 0 = y at hcy he
          have hbq : (x != y) = true := by rw [bne_iff_ne]; exact he
          have hbe : (x == y) = false := by rw [beq_eq_false_iff_ne]; exact he
          clear he HS hj
          go_wp2_with fail
          go_region
          go_wp2
          go_ret
          exact ⟨ret_bool (by rw [decide_eq_false hF.out]), hb.out.drew⟩
      · obtain rfl : k = xs.length := by omega
        go_wp2
        go_ret
        exact ⟨ret_bool (by rw [decide_eq_true (list_eq_of HM.out.symm hj.out)]), hb.out⟩
  · have hF := hid (show xs ≠ ys by intro e; subst e; exact hne hm)
    have hq : ((xs.length : Int) != (m : Int)) = true := by rw [bne_iff_ne]; omega
    have hq2 : decide (xs.length = m) = false := decide_eq_false hne
    have HN := hid hne
    clear hm hne
    go_enter Tryz.func69, Tryz.ntmps69
    go_wp2
    go_ret
    exact ⟨ret_bool (by rw [decide_eq_false hF.out]), Below.refl _ _⟩
end Go.Proofs.YtlamaakconjkcaaGreat
end
section
namespace Go.Proofs.YtlamaakconjkcaaGreat
set_option maxRecDepth 100000
open Go.RowKit Go.Lib Go.Tk
attribute [-go_sem] storeCells

def zeroDoc : Value := .agg #[.int .u8 0, .int .u64 0, .string ⟨#[]⟩, .slice none 0 0, .int .i64 0, .slice none 0 0, .int .i64 0, .slice none 0 0, .int .u8 0, .int .u64 0, .int .u8 0, .int .u64 0, .int .i64 0, .int .i64 0, .int .i64 0, .int .i64 0, .int .i64 0]
/-- may a ticket be? -/
def ticketB (c r n : Int) : Bool := decide (c < n) && decide (1 ≤ r) && decide (r ≤ 9999999999)
def makeE (c r : Int) (s : SaleV) (n : Int) : Int := if checkE s n = 1 ∨ ticketB c r n = false then 1 else checkE s n

theorem docSize : (Tryz.prog.info? 32).map (·.size) = some 17 := by kernel_rfl

def zeroCells : List Value := [.int .u8 0, .int .u64 0, .string ⟨#[]⟩, .slice none 0 0, .int .i64 0, .slice none 0 0, .int .i64 0, .slice none 0 0, .int .u8 0, .int .u64 0, .int .u8 0, .int .u64 0, .int .i64 0, .int .i64 0, .int .i64 0, .int .i64 0, .int .i64 0]
theorem doc_store {w : World} {b : Nat} (cs : List Value) (hs : cs.length = 17) (h1 : ∀ v ∈ cs, v.oneCell' = true) (ht : w.there b 0 17) : Sem.run Tryz.prog (storeCells ⟨b, 0, none⟩ cs 0) w = .ok () (w.setCells b 0 cs) :=
  run_storeCells_cells (P := Tryz.prog) b 0 cs 0 w (fun j hj => by simpa using (ht j (by omega)).1) (fun j hj => by simpa using (ht j (by omega)).2) h1

theorem doc_load {w : World} {b : Nat} {cells : Array Value} (hs : cells.size = 17) (hc : w.rangeAt b 0 cells.toList) : (loadVar 32 ⟨b, 0, none⟩).run Tryz.prog w = .ok (.agg cells) w := by
  have := run_loadVar_mid (P := Tryz.prog) w b 0 32 cells.toList _ hc Tryz.underlying32 rfl (by rw [docSize]; simp [hs])
  simpa using this

section
attribute [-go_sem] loadVar
theorem make_results {w : World} {b : Nat} {cells : Array Value} {e : Value} {tmps : Array Value} (h6 : tmps[6]?.getD undef = .pointer (some ⟨b, 0, none⟩)) (h7 : tmps[7]?.getD undef = e)
    (hl : (loadVar 32 ⟨b, 0, none⟩).run Tryz.prog w = .ok (.agg cells) w) : (results Tryz.f50 tmps).run Tryz.prog w = .ok (.tuple #[.agg cells, e]) w := by
  unfold results
  rw [Tryz.results50]
  simp [go_sem, h6, h7, hl]
end

set_option maxRecDepth 100000 in
set_option maxHeartbeats 2000000 in
theorem make_arg (c r n : Int) (s : SaleV) (A : SaleA) (w : World) (hs : SaleAt w s A) (ok : SaleOk s) (h : checkE s n = 1) :
    Calls Tryz.prog 50 #[.agg #[.int .u8 c, .int .u64 r], saleAgg s A, .int .i64 n] w fun e w' => e = .returned (.tuple #[zeroDoc, .int .i64 1]) ∧ Below w.heap.size w w' := by
  obtain ⟨la, lc, ta, tc⟩ := A
  have KEY := hid (fun w' (hb : Below w.heap.size w w') => tcheck_any s ⟨la, lc, ta, tc⟩ n w' (hs.kept hb) ok)
  have HC := hid h
  clear hs ok h
  unfold saleAgg at KEY ⊢
  dsimp only at KEY ⊢
  go_enter Tryz.func50, Tryz.ntmps50
  go_wp2_with fail
  refine (KEY.out _ ?_).mono ?_
  · exact (((Below.refl _ _).alloc (Nat.le_refl _) _).alloc (by simp) _).alloc (by simp; omega) _
  rintro e w2 ⟨rfl, hb2⟩
  rw [HC.out]
  clear KEY
  have xt := ((Box.new (w := w) (vs := #[.int .u8 c, .int .u64 r]) (E := 29) rfl).kept (below_alloc _ _)).kept (below_alloc _ _) |>.kept hb2
  have hx : Box w2 (w.heap.size + 1 + 1) #[.int .u8 0, .int .u64 0, .string ⟨#[]⟩, .slice none 0 0, .int .i64 0, .slice none 0 0, .int .i64 0, .slice none 0 0, .int .u8 0, .int .u64 0, .int .u8 0, .int .u64 0, .int .i64 0, .int .i64 0, .int .i64 0, .int .i64 0, .int .i64 0] := (Box.new (by simp)).kept hb2
  have ht := hx.there (n := 17) (Nat.le_refl _)
  have HB2 : Aside (Below w.heap.size w w2) := ((((Below.refl _ _).alloc (Nat.le_refl _) _).alloc (by simp) _).alloc (by simp; omega) _).trans (hb2.mono (by simp; omega))
  have t0 := xt.cell 0 rfl
  have t1 := xt.cell 1 rfl
  clear hx hb2 xt
  have HT := hid ht
  clear ht
  have hst := doc_store (w := w2) (b := w.heap.size + 1 + 1) zeroCells rfl (by decide) HT.out
  unfold zeroCells at hst
  have hrg := World.rangeAt_setCells_same w2 (w.heap.size + 1 + 1) 0 zeroCells HT.out
  have hgs := grownBy_setCells (w.heap.size + 1 + 1) zeroCells 0 w2
  unfold zeroCells at hrg hgs
  have HR := hid hrg
  have HG := hid hgs
  clear hrg hgs
  go_wp2
  have hl := doc_load (cells := zeroCells.toArray) rfl HR.out
  unfold zeroCells at hl
  have hgg := HG.out
  generalize w2.setCells (w.heap.size + 1 + 1) 0 _ = wf at *
  exact bodyPost_ret (v := .tuple #[zeroDoc, .int .i64 1]) (make_results rfl rfl hl) rfl ⟨rfl, HB2.out.grown hgg HB2.out.size (fun k hk => by cases hk; omega)⟩

set_option maxRecDepth 100000 in
set_option maxHeartbeats 2000000 in
theorem make_car (c r n : Int) (s : SaleV) (A : SaleA) (w : World) (hs : SaleAt w s A) (ok : SaleOk s) (h : checkE s n ≠ 1) (hc0 : 0 ≤ c) (hc1 : c ≤ 255) (h2 : n ≤ c) :
    Calls Tryz.prog 50 #[.agg #[.int .u8 c, .int .u64 r], saleAgg s A, .int .i64 n] w fun e w' => e = .returned (.tuple #[zeroDoc, .int .i64 1]) ∧ Below w.heap.size w w' := by
  obtain ⟨la, lc, ta, tc⟩ := A
  have KEY := hid (fun w' (hb : Below w.heap.size w w') => tcheck_any s ⟨la, lc, ta, tc⟩ n w' (hs.kept hb) ok)
  have q1 : (checkE s n == 1) = false := by simpa using h
  have q2 : decide (c ≥ n) = true := decide_eq_true h2
  clear hs ok h h2
  unfold saleAgg at KEY ⊢
  dsimp only at KEY ⊢
  go_enter Tryz.func50, Tryz.ntmps50
  go_wp2_with fail
  refine (KEY.out _ ?_).mono ?_
  · exact (((Below.refl _ _).alloc (Nat.le_refl _) _).alloc (by simp) _).alloc (by simp; omega) _
  rintro e w2 ⟨rfl, hb2⟩
  generalize checkE s n = ce at *
  clear KEY
  have xt := ((Box.new (w := w) (vs := #[.int .u8 c, .int .u64 r]) (E := 29) rfl).kept (below_alloc _ _)).kept (below_alloc _ _) |>.kept hb2
  have hx : Box w2 (w.heap.size + 1 + 1) #[.int .u8 0, .int .u64 0, .string ⟨#[]⟩, .slice none 0 0, .int .i64 0, .slice none 0 0, .int .i64 0, .slice none 0 0, .int .u8 0, .int .u64 0, .int .u8 0, .int .u64 0, .int .i64 0, .int .i64 0, .int .i64 0, .int .i64 0, .int .i64 0] := (Box.new (by simp)).kept hb2
  have ht := hx.there (n := 17) (Nat.le_refl _)
  have HB2 : Aside (Below w.heap.size w w2) := ((((Below.refl _ _).alloc (Nat.le_refl _) _).alloc (by simp) _).alloc (by simp; omega) _).trans (hb2.mono (by simp; omega))
  have t0 := xt.cell 0 rfl
  have t1 := xt.cell 1 rfl
  clear hx hb2 xt
  have HT := hid ht
  clear ht
  have hst := doc_store (w := w2) (b := w.heap.size + 1 + 1) zeroCells rfl (by decide) HT.out
  unfold zeroCells at hst
  have hrg := World.rangeAt_setCells_same w2 (w.heap.size + 1 + 1) 0 zeroCells HT.out
  have hgs := grownBy_setCells (w.heap.size + 1 + 1) zeroCells 0 w2
  unfold zeroCells at hrg hgs
  have HR := hid hrg
  have HG := hid hgs
  clear hrg hgs
  go_wp2
  have hl := doc_load (cells := zeroCells.toArray) rfl HR.out
  unfold zeroCells at hl
  have hgg := HG.out
  generalize w2.setCells (w.heap.size + 1 + 1) 0 _ = wf at *
  exact bodyPost_ret (v := .tuple #[zeroDoc, .int .i64 1]) (make_results rfl rfl hl) rfl ⟨rfl, HB2.out.grown hgg HB2.out.size (fun k hk => by cases hk; omega)⟩

set_option maxRecDepth 100000 in
set_option maxHeartbeats 2000000 in
theorem make_low (c r n : Int) (s : SaleV) (A : SaleA) (w : World) (hs : SaleAt w s A) (ok : SaleOk s) (h : checkE s n ≠ 1) (hc0 : 0 ≤ c) (hc1 : c ≤ 255) (h2 : c < n) (h3 : r < 1) :
    Calls Tryz.prog 50 #[.agg #[.int .u8 c, .int .u64 r], saleAgg s A, .int .i64 n] w fun e w' => e = .returned (.tuple #[zeroDoc, .int .i64 1]) ∧ Below w.heap.size w w' := by
  obtain ⟨la, lc, ta, tc⟩ := A
  have KEY := hid (fun w' (hb : Below w.heap.size w w') => tcheck_any s ⟨la, lc, ta, tc⟩ n w' (hs.kept hb) ok)
  have q1 : (checkE s n == 1) = false := by simpa using h
  have q2 : decide (c ≥ n) = false := decide_eq_false (by omega)
  have q3 : decide (r < 1) = true := decide_eq_true h3
  clear hs ok h h2 h3
  unfold saleAgg at KEY ⊢
  dsimp only at KEY ⊢
  go_enter Tryz.func50, Tryz.ntmps50
  go_wp2_with fail
  refine (KEY.out _ ?_).mono ?_
  · exact (((Below.refl _ _).alloc (Nat.le_refl _) _).alloc (by simp) _).alloc (by simp; omega) _
  rintro e w2 ⟨rfl, hb2⟩
  generalize checkE s n = ce at *
  clear KEY
  have xt := ((Box.new (w := w) (vs := #[.int .u8 c, .int .u64 r]) (E := 29) rfl).kept (below_alloc _ _)).kept (below_alloc _ _) |>.kept hb2
  have hx : Box w2 (w.heap.size + 1 + 1) #[.int .u8 0, .int .u64 0, .string ⟨#[]⟩, .slice none 0 0, .int .i64 0, .slice none 0 0, .int .i64 0, .slice none 0 0, .int .u8 0, .int .u64 0, .int .u8 0, .int .u64 0, .int .i64 0, .int .i64 0, .int .i64 0, .int .i64 0, .int .i64 0] := (Box.new (by simp)).kept hb2
  have ht := hx.there (n := 17) (Nat.le_refl _)
  have HB2 : Aside (Below w.heap.size w w2) := ((((Below.refl _ _).alloc (Nat.le_refl _) _).alloc (by simp) _).alloc (by simp; omega) _).trans (hb2.mono (by simp; omega))
  have t0 := xt.cell 0 rfl
  have t1 := xt.cell 1 rfl
  clear hx hb2 xt
  have HT := hid ht
  clear ht
  have hst := doc_store (w := w2) (b := w.heap.size + 1 + 1) zeroCells rfl (by decide) HT.out
  unfold zeroCells at hst
  have hrg := World.rangeAt_setCells_same w2 (w.heap.size + 1 + 1) 0 zeroCells HT.out
  have hgs := grownBy_setCells (w.heap.size + 1 + 1) zeroCells 0 w2
  unfold zeroCells at hrg hgs
  have HR := hid hrg
  have HG := hid hgs
  clear hrg hgs
  go_wp2
  have hl := doc_load (cells := zeroCells.toArray) rfl HR.out
  unfold zeroCells at hl
  have hgg := HG.out
  generalize w2.setCells (w.heap.size + 1 + 1) 0 _ = wf at *
  exact bodyPost_ret (v := .tuple #[zeroDoc, .int .i64 1]) (make_results rfl rfl hl) rfl ⟨rfl, HB2.out.grown hgg HB2.out.size (fun k hk => by cases hk; omega)⟩

set_option maxRecDepth 100000 in
set_option maxHeartbeats 2000000 in
theorem make_high (c r n : Int) (s : SaleV) (A : SaleA) (w : World) (hs : SaleAt w s A) (ok : SaleOk s) (h : checkE s n ≠ 1) (hc0 : 0 ≤ c) (hc1 : c ≤ 255) (h2 : c < n) (h4 : 9999999999 < r) :
    Calls Tryz.prog 50 #[.agg #[.int .u8 c, .int .u64 r], saleAgg s A, .int .i64 n] w fun e w' => e = .returned (.tuple #[zeroDoc, .int .i64 1]) ∧ Below w.heap.size w w' := by
  obtain ⟨la, lc, ta, tc⟩ := A
  have KEY := hid (fun w' (hb : Below w.heap.size w w') => tcheck_any s ⟨la, lc, ta, tc⟩ n w' (hs.kept hb) ok)
  have q1 : (checkE s n == 1) = false := by simpa using h
  have q2 : decide (c ≥ n) = false := decide_eq_false (by omega)
  have q3 : decide (r < 1) = false := decide_eq_false (by omega)
  have q4 : decide (r > 9999999999) = true := decide_eq_true h4
  clear hs ok h h2 h4
  unfold saleAgg at KEY ⊢
  dsimp only at KEY ⊢
  go_enter Tryz.func50, Tryz.ntmps50
  go_wp2_with fail
  refine (KEY.out _ ?_).mono ?_
  · exact (((Below.refl _ _).alloc (Nat.le_refl _) _).alloc (by simp) _).alloc (by simp; omega) _
  rintro e w2 ⟨rfl, hb2⟩
  generalize checkE s n = ce at *
  clear KEY
  have xt := ((Box.new (w := w) (vs := #[.int .u8 c, .int .u64 r]) (E := 29) rfl).kept (below_alloc _ _)).kept (below_alloc _ _) |>.kept hb2
  have hx : Box w2 (w.heap.size + 1 + 1) #[.int .u8 0, .int .u64 0, .string ⟨#[]⟩, .slice none 0 0, .int .i64 0, .slice none 0 0, .int .i64 0, .slice none 0 0, .int .u8 0, .int .u64 0, .int .u8 0, .int .u64 0, .int .i64 0, .int .i64 0, .int .i64 0, .int .i64 0, .int .i64 0] := (Box.new (by simp)).kept hb2
  have ht := hx.there (n := 17) (Nat.le_refl _)
  have HB2 : Aside (Below w.heap.size w w2) := ((((Below.refl _ _).alloc (Nat.le_refl _) _).alloc (by simp) _).alloc (by simp; omega) _).trans (hb2.mono (by simp; omega))
  have t0 := xt.cell 0 rfl
  have t1 := xt.cell 1 rfl
  clear hx hb2 xt
  have HT := hid ht
  clear ht
  have hst := doc_store (w := w2) (b := w.heap.size + 1 + 1) zeroCells rfl (by decide) HT.out
  unfold zeroCells at hst
  have hrg := World.rangeAt_setCells_same w2 (w.heap.size + 1 + 1) 0 zeroCells HT.out
  have hgs := grownBy_setCells (w.heap.size + 1 + 1) zeroCells 0 w2
  unfold zeroCells at hrg hgs
  have HR := hid hrg
  have HG := hid hgs
  clear hrg hgs
  go_wp2
  have hl := doc_load (cells := zeroCells.toArray) rfl HR.out
  unfold zeroCells at hl
  have hgg := HG.out
  generalize w2.setCells (w.heap.size + 1 + 1) 0 _ = wf at *
  exact bodyPost_ret (v := .tuple #[zeroDoc, .int .i64 1]) (make_results rfl rfl hl) rfl ⟨rfl, HB2.out.grown hgg HB2.out.size (fun k hk => by cases hk; omega)⟩

set_option maxRecDepth 100000 in
set_option maxHeartbeats 2000000 in
theorem make_bad (c r n : Int) (s : SaleV) (A : SaleA) (w : World) (hs : SaleAt w s A) (ok : SaleOk s) (h : checkE s n ≠ 1) (hc0 : 0 ≤ c) (hc1 : c ≤ 255) (h2 : c < n) (h3 : 1 ≤ r) (h4 : r ≤ 9999999999) (h5 : checkE s n ≠ 0) :
    Calls Tryz.prog 50 #[.agg #[.int .u8 c, .int .u64 r], saleAgg s A, .int .i64 n] w fun e w' => e = .returned (.tuple #[zeroDoc, .int .i64 (checkE s n)]) ∧ Below w.heap.size w w' := by
  obtain ⟨la, lc, ta, tc⟩ := A
  have KEY := hid (fun w' (hb : Below w.heap.size w w') => tcheck_any s ⟨la, lc, ta, tc⟩ n w' (hs.kept hb) ok)
  have q1 : (checkE s n == 1) = false := by simpa using h
  have q2 : decide (c ≥ n) = false := decide_eq_false (by omega)
  have q3 : decide (r < 1) = false := decide_eq_false (by omega)
  have q4 : decide (r > 9999999999) = false := decide_eq_false (by omega)
  have q5 : (checkE s n != 0) = true := by simpa using h5
  clear hs ok h h2 h3 h4 h5
  unfold saleAgg at KEY ⊢
  dsimp only at KEY ⊢
  go_enter Tryz.func50, Tryz.ntmps50
  go_wp2_with fail
  refine (KEY.out _ ?_).mono ?_
  · exact (((Below.refl _ _).alloc (Nat.le_refl _) _).alloc (by simp) _).alloc (by simp; omega) _
  rintro e w2 ⟨rfl, hb2⟩
  generalize hce : checkE s n = ce at *
  have HCE := hid hce
  clear hce
  clear KEY
  have xt := ((Box.new (w := w) (vs := #[.int .u8 c, .int .u64 r]) (E := 29) rfl).kept (below_alloc _ _)).kept (below_alloc _ _) |>.kept hb2
  have hx : Box w2 (w.heap.size + 1 + 1) #[.int .u8 0, .int .u64 0, .string ⟨#[]⟩, .slice none 0 0, .int .i64 0, .slice none 0 0, .int .i64 0, .slice none 0 0, .int .u8 0, .int .u64 0, .int .u8 0, .int .u64 0, .int .i64 0, .int .i64 0, .int .i64 0, .int .i64 0, .int .i64 0] := (Box.new (by simp)).kept hb2
  have ht := hx.there (n := 17) (Nat.le_refl _)
  have HB2 : Aside (Below w.heap.size w w2) := ((((Below.refl _ _).alloc (Nat.le_refl _) _).alloc (by simp) _).alloc (by simp; omega) _).trans (hb2.mono (by simp; omega))
  have t0 := xt.cell 0 rfl
  have t1 := xt.cell 1 rfl
  clear hx hb2 xt
  have HT := hid ht
  clear ht
  have hst := doc_store (w := w2) (b := w.heap.size + 1 + 1) zeroCells rfl (by decide) HT.out
  unfold zeroCells at hst
  have hrg := World.rangeAt_setCells_same w2 (w.heap.size + 1 + 1) 0 zeroCells HT.out
  have hgs := grownBy_setCells (w.heap.size + 1 + 1) zeroCells 0 w2
  unfold zeroCells at hrg hgs
  have HR := hid hrg
  have HG := hid hgs
  clear hrg hgs
  go_wp2
  have hl := doc_load (cells := zeroCells.toArray) rfl HR.out
  unfold zeroCells at hl
  have hgg := HG.out
  generalize w2.setCells (w.heap.size + 1 + 1) 0 _ = wf at *
  exact bodyPost_ret (v := .tuple #[zeroDoc, .int .i64 ce]) (make_results rfl rfl hl) rfl ⟨by rw [HCE.out], HB2.out.grown hgg HB2.out.size (fun k hk => by cases hk; omega)⟩
end Go.Proofs.YtlamaakconjkcaaGreat
end
