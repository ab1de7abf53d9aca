/- POST, PostNumbers: the walk. -/
import Derived.Test.YtfnneghddndeiaaNum1
import Derived.IntWalk
import Derived.Deep.DeepCutAuto
import Derived.Deep.CutBlock
import Derived.Deep.LoopGhost
namespace Go.Proofs.Ytfnneghddndeiaa
open Go.RowKit Go.Lib Go.Tk Go.Shelf Go.Maps
set_option linter.unusedSimpArgs false
attribute [-go_sem] loadCellsFrom

set_option maxRecDepth 100000 in
set_option maxHeartbeats 4000000 in
theorem numbers_long (sf n : Int) (l : List PAct) (a : Option Addr) (cap : Nat) (w0 : World) (hm : l.length ≤ maxLen) (hl : 300 < l.length) :
    Calls Try.prog 4 #[.int .u8 sf, .int .i64 n, .slice a l.length cap] w0 fun e w' => e = .returned (.bool true) ∧ Below w0.heap.size w0 w' := by
  unfold maxLen at hm
  have q1 : decide ((l.length : Int) > 300) = true := decide_eq_true (by omega)
  go_enter Try.func4, Try.ntmps4
  go_wp2_with (go_at_call 6; refine (wakes19 _).mono ?_; rintro e w' ⟨rfl, hb⟩)
  go_ret
  exact ⟨rfl, hb⟩
set_option maxRecDepth 100000 in
set_option maxHeartbeats 4000000 in
theorem numbers_none (sf n : Int) (l : List PAct) (a : Option Addr) (cap : Nat) (w0 : World) (hl : ¬ 300 < l.length) (h0 : 0 ≤ sf ∧ sf ≤ 255) (hn : newE sf n ≠ 0) :
    Calls Try.prog 4 #[.int .u8 sf, .int .i64 n, .slice a l.length cap] w0 fun e w' => e = .returned (.bool true) ∧ Below w0.heap.size w0 w' := by
  have q1 : decide ((l.length : Int) > 300) = false := decide_eq_false (by omega)
  have K := hid (new_no sf n w0 h0.1 h0.2 hn)
  clear hn
  go_enter Try.func4, Try.ntmps4
  go_wp2_with fail
  refine K.out.mono ?_
  rintro e w1 ⟨rfl, rfl⟩
  go_wp2_with fail
  refine (wakes19 _).mono ?_
  rintro e w' ⟨rfl, hb⟩
  go_wp2
  go_ret
  exact ⟨rfl, hb⟩

set_option maxRecDepth 100000 in
set_option maxHeartbeats 8000000 in
theorem numbers_good (sf : Int) (n : Nat) (l : List PAct) (a : Option Addr) (cap : Nat) (w0 : World) (hr : Row w0 a (cellsL encAct l)) (hok : ∀ x ∈ l, PActOk x) (hl : l.length ≤ 300) (h0 : 0 ≤ sf ∧ sf ≤ 255) (hn : newE sf n = 0) :
    Calls Try.prog 4 #[.int .u8 sf, .int .i64 n, .slice a l.length cap] w0 fun e w' => e = .returned (.bool true) ∧ Below w0.heap.size w0 w' := by
  have q1 : decide ((l.length : Int) > 300) = false := decide_eq_false (by omega)
  have K := hid (new_at sf n w0 h0.1 h0.2 hn)
  have n8 : 2 ≤ n ∧ n ≤ 8 := by
    unfold newE at hn
    split at hn
    · cases hn
    · omega
  have hmk := make_said n (by omega)
  have HN := hid (newP_num h0.1 hn)
  have HR := hid hr
  have OK := hid hok
  clear hn hr hok
  go_enter Try.func4, Try.ntmps4
  go_wp2_with fail
  refine K.out.mono ?_
  rintro e w1 ⟨pb, rfl, hp, hb⟩
  have H0 := hid (NumAt.start (n := n) hp hb)
  clear hp hb K
  go_wp2_with fail
  generalize w1.heap.size = sb at *
  generalize w1.alloc (Obj.cells (Array.replicate n (Value.slice none 0 0)) 28) = w2 at *
  go_loopg [10] l.length (fun g s10 wr => ∃ (i : Nat) (P : PostV) (S : Nat → List Msg) (V : Nat → Value), g + i = l.length ∧ s10 = .int .i64 i ∧ Aside (P.self = sf ∧ P.n = n) ∧ Aside (NumOk P S i) ∧ Aside (NumAt w0 wr pb sb n P S V))
  case atStart => exact ⟨0, _, _, _, rfl, rfl, ⟨rfl, rfl⟩, HN.out, H0.out⟩
  case round =>
    clear H0 HN
    obtain ⟨i, P, S, V, hi, rfl, HP, HN, HM⟩ := hrel
    obtain ⟨G, hGG⟩ : ∃ G, G = gk := ⟨_, rfl⟩
    subst hGG
    by_cases hlt : i < l.length
    · obtain ⟨b', off', rfl, ld⟩ := (HR.out.kept HM.out.below).load encAct_len hlt (by decide)
      obtain ⟨x, hx⟩ : ∃ x, x = l[i] := ⟨_, rfl⟩
      have XO := OK.out _ (List.getElem_mem hlt)
      rw [← hx] at ld XO
      clear hx
      obtain ⟨dO, who, num, m⟩ := x
      obtain ⟨xd, xw, xn, xm⟩ := XO
      dsimp only at xd xw xn xm
      unfold encAct encMsg at ld
      simp only [List.cons_append, List.nil_append] at ld
      go_upto_block 2 with fail
      go_cut [43] (fun _ wx => ∃ (P' : PostV) (S' : Nat → List Msg) (V' : Nat → Value), Aside (P'.self = sf ∧ P'.n = n) ∧ Aside (NumOk P' S' (i + 1)) ∧ Aside (NumAt w0 wx pb sb n P' S' V'))
      case first =>
        obtain ⟨wx, hwx⟩ : ∃ wx, wx = wr.alloc (.cells #[.int .i64 dO, .int .u8 who, .int .u64 num, .int .u8 m.k, .int .u8 m.tc, .int .u64 m.tr, .int .u8 m.ix, .int .u8 m.lc, .int .u16 m.lf, .int .u32 m.lx, .int .i64 m.v, .int .u8 m.st, .int .u32 m.nn, .int .i64 m.amt, .int .i64 m.cd] 46) := ⟨_, rfl⟩
        rw [← hwx]
        have hb : Below wr.heap.size wr wx := by rw [hwx]; exact below_alloc _ _
        have X : Hid (Box wx wr.heap.size #[.int .i64 dO, .int .u8 who, .int .u64 num, .int .u8 m.k, .int .u8 m.tc, .int .u64 m.tr, .int .u8 m.ix, .int .u8 m.lc, .int .u16 m.lf, .int .u32 m.lx, .int .i64 m.v, .int .u8 m.st, .int .u32 m.nn, .int .i64 m.amt, .int .i64 m.cd]) := hid (by rw [hwx]; exact Box.new rfl)
        obtain ⟨T, hT, hat⟩ := HM.out.at
        obtain ⟨hp, hdid⟩ := hat wx hb
        have HT := hid hT
        have HD := hid hdid
        have HPA := hid hp
        have c1 : wx.cell? ⟨wr.heap.size, 1, none⟩ = some (.int .u8 who) := X.out.cell 1 rfl
        have hxs : wr.heap.size < wx.heap.size := X.out.lt
        have hnum := HN.out
        have hself := HP.out
        clear hwx hT hat hdid hp ld
        generalize hxb : wr.heap.size = xb at *
        have HXB := hid hxb
        clear hxb
        by_cases hz : dO = 0
        · subst hz
          have ldm : Sem.run Try.prog (loadCellsFrom ⟨xb, 3, none⟩ 0 12 #[]) wx = .ok #[.int .u8 m.k, .int .u8 m.tc, .int .u64 m.tr, .int .u8 m.ix, .int .u8 m.lc, .int .u16 m.lf, .int .u32 m.lx, .int .i64 m.v, .int .u8 m.st, .int .u32 m.nn, .int .i64 m.amt, .int .i64 m.cd] wx := box_part (off := 3) X.out #[.int .u8 m.k, .int .u8 m.tc, .int .u64 m.tr, .int .u8 m.ix, .int .u8 m.lc, .int .u16 m.lf, .int .u32 m.lx, .int .i64 m.v, .int .u8 m.st, .int .u32 m.nn, .int .i64 m.amt, .int .i64 m.cd] rfl (fun j v h => by match j, h with | 0, h | 1, h | 2, h | 3, h | 4, h | 5, h | 6, h | 7, h | 8, h | 9, h | 10, h | 11, h => exact h)
          have K := hid (push_at T pb P who m wx HPA.out xw.1 xw.2 (fun ho => by
            have h1 := hnum.given who.toNat (by rw [Int.toNat_of_nonneg xw.1]; exact ho)
            have h2 := hnum.le who.toNat
            omega))
          unfold msgAgg at K
          go_wp2_with fail
          refine K.out.mono ?_
          rintro e w3 hd
          obtain ⟨rfl, hM3⟩ := HD.out _ _ _ hd
          have hf := hd.2.2
          have x3 := X.out.fr hf (fun h => Nat.lt_irrefl _ (HT.out _ h))
          have hfs : wx.heap.size ≤ w3.heap.size := hf.size
          clear hd hf c1 ldm HT HD HPA X K
          by_cases hz : (doP (fun X => pushX X m) P who).1 = 0
          · obtain ⟨ho, hwl⟩ := push_yes hz
            have hN2 := hnum.push who m (by omega) hz
            obtain ⟨e1, e2, -⟩ := doP_same (f := fun X => pushX X m) (P := P) (c := who)
            have hcn : 0 ≤ who ∧ who < n := by
              simp only [PostV.other, Bool.and_eq_true, decide_eq_true_eq] at ho
              have := hself.2
              omega
            obtain ⟨c, rfl⟩ : ∃ c : Nat, who = c := ⟨who.toNat, by omega⟩
            rw [Int.toNat_natCast] at hN2
            have i0 : (0 : Int) ≤ (c : Int) := by omega
            have i1 : (c : Int) < (n : Int) := by omega
            have hcl : c < n := by omega
            have hSl := hnum.le c
            obtain ⟨va, vk, hVc, hrow⟩ := hM3.slice hcl
            obtain ⟨cc, cf⟩ := hM3.cell hcl
            have hsb := hM3.mat.lt
            have hoff := hM3.off c hcl
            have hrw := hM3.row c hcl
            rw [hVc] at cc hrw
            have hneV : ∀ b, Box w3 b (encAct ⟨0, c, num, m⟩).toArray → True := fun _ _ => trivial
            have e3 : Hid ((doP (fun X => pushX X m) P c).1 = 0) := hid hz
            rw [hz]
            have HM3 := hid hM3
            have HN2 := hid hN2
            have HSF := hid (And.intro (e1.trans hself.1) (e2.trans hself.2))
            obtain ⟨N, hNl⟩ : ∃ N, N = (S c).length := ⟨_, rfl⟩
            rw [← hNl] at cc hrw hSl hVc
            have HVC := hid hVc
            have HNl := hid hNl
            obtain ⟨W0, hW0⟩ : ∃ W0, W0 = w3.drew := ⟨_, rfl⟩
            have z0 : W0.heap.size = w3.heap.size := by rw [hW0]; rfl
            have b30 : Below w3.heap.size w3 W0 := by rw [hW0]; exact (Below.refl _ _).drew
            have x0 := x3.kept b30
            have r0 : W0.ownsRow w0.heap.size 44 12 (.slice va N vk) N (cellsL encMsg (S c)) := ownsRow_fr hrw (fr_below (fun _ => False) b30) (fun _ _ f => f)
            obtain ⟨W1, hW1⟩ : ∃ W1, W1 = W0.alloc (.cells #[.int .u8 m.k, .int .u8 m.tc, .int .u64 m.tr, .int .u8 m.ix, .int .u8 m.lc, .int .u16 m.lf, .int .u32 m.lx, .int .i64 m.v, .int .u8 m.st, .int .u32 m.nn, .int .i64 m.amt, .int .i64 m.cd] 44) := ⟨_, rfl⟩
            have b01 : Below W0.heap.size W0 W1 := by rw [hW1]; exact below_alloc _ _
            have x1 := x0.kept b01
            obtain ⟨i0', hi', hz0, hz1, hz2⟩ := info_parts msgrow
            obtain ⟨v', w', hrun, hown', hgrow', -, hat'⟩ := run_append_own_at (P := Try.prog) W1 w0.heap.size 28 28 44 i0' _ 12 72 Try.underlying28 hi' hz0 hz1 hz2 rfl (by decide) _ _ _
              (ownsRow_fr r0 (fr_below (fun _ => False) b01) (fun _ _ f => f))
              ⟨W0.heap.size, 0, none⟩ 1 1 (encMsg m) rfl (fun i u hi => by
                have e : (Addr.mk W0.heap.size 0 none).add i = ⟨W0.heap.size, i, none⟩ := by
                  unfold Addr.add
                  split
                  · rename_i e; subst e; rfl
                  · simp
                rw [e, hW1, cell_new (w := W0) (b := W0.heap.size) rfl]
                simpa [encMsg] using hi) (encMsg_one _) (by unfold maxLen; omega) (by omega) (by have := HM3.out.below.size; have := b01.size; omega)
            obtain ⟨g', cap', rfl⟩ := ownsRow_succ hown'
            have x2 := x1.grown hgrow' (fun e => by
              have := ((HM.out.row c hcl).lt xb (by rw [HVC.out]; exact e)).2
              rw [HXB.out] at this
              exact Nat.lt_irrefl _ this)
            have m1 := (HM3.out.mat.kept b30).kept b01
            have m2 := m1.grown hgrow' (fun e => hoff (by rw [HVC.out]; exact e))
            obtain ⟨W3, hW3⟩ : ∃ W3, W3 = w'.setCell ⟨sb, c, none⟩ (.slice (some ⟨g', 0, none⟩) (N + 1) cap') := ⟨_, rfl⟩
            have H3 : Hid (NumAt w0 W3 pb sb n (doP (fun X => pushX X m) P c).2 (saidPut S c m) (fun i => if i = c then (.slice (some ⟨g', 0, none⟩) (N + 1) cap') else V i)) := hid (by
              rw [hW3]
              exact ((HM3.out.kept b30).kept b01).said hcl (by rw [← HNl.out]; exact hown') (by rw [HVC.out]; exact hgrow') (by
                rw [HVC.out]
                rcases hat' with h | h
                · exact .inl h
                · exact .inr ⟨_, h, Nat.le_refl _⟩))
            have k10 : W0.cell? ⟨xb, 1, none⟩ = some (.int .u8 (c : Int)) := x0.cell 1 rfl
            have k11 : W1.cell? ⟨xb, 1, none⟩ = some (.int .u8 (c : Int)) := x1.cell 1 rfl
            have k12 : w'.cell? ⟨xb, 1, none⟩ = some (.int .u8 (c : Int)) := x2.cell 1 rfl
            have kc0 : W0.cell? ⟨sb, c, none⟩ = some (.slice va N vk) := ((HM3.out.mat.kept b30).cell c (by simp [hcl, HVC.out]))
            have kc1 : W1.cell? ⟨sb, c, none⟩ = some (.slice va N vk) := m1.cell c (by simp [hcl, HVC.out])
            have kc2 : w'.cell? ⟨sb, c, none⟩ = some (.slice va N vk) := m2.cell c (by simp [hcl, HVC.out])
            have kf2 := m2.free c
            have ldm : Sem.run Try.prog (loadCellsFrom ⟨xb, 3, none⟩ 0 12 #[]) W0 = .ok #[.int .u8 m.k, .int .u8 m.tc, .int .u64 m.tr, .int .u8 m.ix, .int .u8 m.lc, .int .u16 m.lf, .int .u32 m.lx, .int .i64 m.v, .int .u8 m.st, .int .u32 m.nn, .int .i64 m.amt, .int .i64 m.cd] W0 := box_part (off := 3) x0 #[.int .u8 m.k, .int .u8 m.tc, .int .u64 m.tr, .int .u8 m.ix, .int .u8 m.lc, .int .u16 m.lf, .int .u32 m.lx, .int .i64 m.v, .int .u8 m.st, .int .u32 m.nn, .int .i64 m.amt, .int .i64 m.cd] rfl (fun j v h => by match j, h with | 0, h | 1, h | 2, h | 3, h | 4, h | 5, h | 6, h | 7, h | 8, h | 9, h | 10, h | 11, h => exact h)
            have hmx : Try.prog.follows .mixedOrders = true := by kernel_rfl
            have HW0 := hid hW0
            have HW1 := hid hW1
            have HW3 := hid hW3
            clear hW0 hW1 hW3 x0 x1 x2 x3 m1 m2 b30 b01 r0 hown' hgrow' hat' hi' hz0 hz1 hz2 hrow hrw hVc cc cf hM3 hN2 e1 e2 ho hwl hoff hneV e3 hz hNl
            go_upto_region 15 with fail
            refine wp_region_flow (fun k => (#[.slice (some ⟨sb, 0, none⟩) n n, .pointer (some ⟨xb, 1, none⟩), .int .u8 (c : Int), .slice (some ⟨sb, 0, none⟩) n n, .pointer (some ⟨xb, 1, none⟩), .int .u8 (c : Int), .pointer (some ⟨sb, c, none⟩), .slice va N vk, .pointer (some ⟨xb, 3, none⟩), .agg #[.int .u8 m.k, .int .u8 m.tc, .int .u64 m.tr, .int .u8 m.ix, .int .u8 m.lc, .int .u16 m.lf, .int .u32 m.lx, .int .i64 m.v, .int .u8 m.st, .int .u32 m.nn, .int .i64 m.amt, .int .i64 m.cd], .slice (some ⟨W0.heap.size, 0, none⟩) 1 1, .slice (some ⟨g', 0, none⟩) (N + 1) cap', .pointer (some ⟨sb, c, none⟩), undef] : Array Value).getD k undef) (fun k wx => wx = (match k with | 0 => W0 | 1 => W1 | 2 => w' | _ => W3)) [10, 11, 13] [[], [], [1], [], [], [4], [3, 4, 5], [3, 4, 5, 6], [], [8], [8, 9], [3, 4, 5, 6, 7, 8, 9, 10], [0, 1, 2], [0, 1, 2, 3, 4, 5, 6, 7, 8, 9, 10, 11, 12]] [0, 0, 0, 0, 0, 0, 0, 0, 0, 0, 0, 1, 0, 2] [2, 2, 2, 1, 1, 1, 1, 1, 0, 0, 0, 1, 2, 2] hmx (by kernel_rfl) (by kernel_rfl) HW0.out.symm ?_ ?_
            · simp only [ssaAct, Act.put, List.setIfInBounds_toArray, List.set_cons_zero, List.set_cons_succ, Nat.zero_add, Nat.reduceAdd]
              refine ⟨?_, ?_, ?_, ?_, ?_, ?_, ?_, ?_, ?_, ?_, ?_, ?_, ?_, ?_, trivial⟩
              · intro k wx hl hh _ hO -- 0: move t9
                obtain rfl | rfl | rfl : k = 0 ∨ k = 1 ∨ k = 2 := by simp at hl hh; omega
                all_goals (subst hO; unfold OpDoes; go_simp)
              · intro k wx hl hh _ hO -- 1: fieldAddr 46 t11 1
                obtain rfl | rfl | rfl : k = 0 ∨ k = 1 ∨ k = 2 := by simp at hl hh; omega
                all_goals (subst hO; unfold OpDoes; go_simp)
              · intro k wx hl hh _ hO -- 2: load 5 t60
                obtain rfl | rfl | rfl : k = 0 ∨ k = 1 ∨ k = 2 := by simp at hl hh; omega
                all_goals (subst hO; unfold OpDoes; go_simp)
              · intro k wx hl hh _ hO -- 3: move t9
                obtain rfl | rfl : k = 0 ∨ k = 1 := by simp at hl hh; omega
                all_goals (subst hO; unfold OpDoes; go_simp)
              · intro k wx hl hh _ hO -- 4: fieldAddr 46 t11 1
                obtain rfl | rfl : k = 0 ∨ k = 1 := by simp at hl hh; omega
                all_goals (subst hO; unfold OpDoes; go_simp)
              · intro k wx hl hh _ hO -- 5: load 5 t63
                obtain rfl | rfl : k = 0 ∨ k = 1 := by simp at hl hh; omega
                all_goals (subst hO; unfold OpDoes; go_simp)
              · intro k wx hl hh _ hO -- 6: indexAddr 55 t62 t64
                obtain rfl | rfl : k = 0 ∨ k = 1 := by simp at hl hh; omega
                all_goals (subst hO; unfold OpDoes; go_simp)
              · intro k wx hl hh _ hO -- 7: load 28 t65
                obtain rfl | rfl : k = 0 ∨ k = 1 := by simp at hl hh; omega
                all_goals (subst hO; unfold OpDoes; go_simp)
              · intro k wx hl hh _ hO -- 8: fieldAddr 46 t11 3
                obtain rfl : k = 0 := by simp at hl hh; omega
                all_goals (subst hO; unfold OpDoes; go_simp)
              · intro k wx hl hh _ hO -- 9: load 44 t67
                obtain rfl : k = 0 := by simp at hl hh; omega
                all_goals (subst hO; unfold OpDoes; go_simp)
              · intro k wx hl hh _ hO -- 10: buildSlice 28 1 #[(0, t68)]
                obtain rfl : k = 0 := by simp at hl hh; omega
                subst hO
                unfold OpDoes
                go_simp
                exact HW1.out.symm
              · intro k wx hl hh _ hO -- 11: call { builtin append, args := #[t66, t69], argTypes := #[28, 28] }
                obtain rfl : k = 1 := by simp at hl hh; omega
                obtain rfl : wx = W1 := hO
                refine (if_pos (by rfl)).mpr ?_
                simp [Oper.wp, Oper.upon, execOp, resolve, invoke, builtin, Act.eval, hrun, Result.andThen, Act.put]
              · intro k wx hl hh _ hO -- 12: indexAddr 55 t59 t61
                obtain rfl | rfl | rfl : k = 0 ∨ k = 1 ∨ k = 2 := by simp at hl hh; omega
                all_goals (subst hO; unfold OpDoes; go_simp)
              · intro k wx hl hh _ hO -- 13: store 28 t71 t70
                obtain rfl : k = 2 := by simp at hl hh; omega
                subst hO
                unfold OpDoes
                go_simp
                exact HW3.out.symm
            · intro wx hO
              simp only [ssaAct, Act.put, List.setIfInBounds_toArray, List.set_cons_zero, List.set_cons_succ, Nat.zero_add, Nat.reduceAdd]
              subst hO
              go_wp2_with fail
              go_meet
              case rel => exact ⟨_, _, _, HSF.out, HN2.out, H3.out⟩
          · rw [push_no hz] at hM3
            have HM3 := hid hM3
            have HN2 := hid hnum.step
            have HSF := hid hself
            have qz : ((doP (fun X => pushX X m) P who).1 == 0) = false := beq_eq_false_iff_ne.2 hz
            generalize (doP (fun X => pushX X m) P who).1 = r at *
            clear hM3 hz x3 hnum hself
            go_wp2_with fail
            go_meet
            case rel => exact ⟨_, _, _, HSF.out, HN2.out, HM3.out⟩
        · have q0 : (dO == 0) = false := beq_eq_false_iff_ne.2 hz
          have c2 : wx.cell? ⟨xb, 2, none⟩ = some (.int .u64 num) := X.out.cell 2 rfl
          have HSF := hid hself
          by_cases h1 : dO = 1
          · subst h1
            have K := hid (ack_at T pb P who num wx HPA.out xw.1 xw.2 xn.1 xn.2)
            have HN2 := hid (hnum.ack who num xw.1)
            have hs2 := hid (doP_same (f := fun X => ackX X num) (P := P) (c := who))
            clear hnum hself hz
            go_wp2_with fail
            refine K.out.mono ?_
            rintro e w3 hd
            obtain ⟨rfl, hM3⟩ := HD.out _ _ _ hd
            have HM3 := hid hM3
            clear hM3 hd
            go_wp2_with fail
            go_meet
            case rel => exact ⟨_, _, _, ⟨hs2.out.1.trans HSF.out.1, hs2.out.2.1.trans HSF.out.2⟩, HN2.out, HM3.out⟩
          · have q1' : (dO == 1) = false := beq_eq_false_iff_ne.2 h1
            have K := hid (took_at T pb P who num wx HPA.out xw.1 xw.2 xn.1 xn.2)
            have HN2 := hid (hnum.took who num xw.1 xn.1 xn.2)
            have hs2 := hid (doP_same (f := fun X => tookX X num) (P := P) (c := who))
            clear hnum hself hz h1
            go_wp2_with fail
            refine K.out.mono ?_
            rintro e w3 hd
            obtain ⟨rfl, hM3⟩ := HD.out _ _ _ hd
            have HM3 := hid hM3
            clear hM3 hd
            go_wp2_with fail
            go_meet
            case rel => exact ⟨_, _, _, ⟨hs2.out.1.trans HSF.out.1, hs2.out.2.1.trans HSF.out.2⟩, HN2.out, HM3.out⟩
      case rest =>
        clear HM HP HN ld xd xm HR OK
        obtain ⟨P', S', V', HP, HN, HM⟩ := hcut
        generalize wr.heap.size = xb at *
        clear wr
        obtain ⟨T, -, hat⟩ := HM.out.at
        have KP := hid (packets_at T pb P' wc (hat wc (Below.refl _ _)).1)
        clear hat
        go_wp2_with fail
        refine KP.out.mono ?_
        rintro e w4 ⟨vp, rfl, hrow, hb4⟩
        have HM4 := hid (HM.out.kept hb4)
        have HR4 := hid hrow
        have hNn := HN.out
        have hPn := HP.out
        have hnP : (packets P').length ≤ 32 * (carK P' P'.n.toNat).length := pkL_len HN.out.ok _
        have hcar := carK_len P' P'.n.toNat
        have hPL : (packets P').length ≤ 256 := by have := n8.2; have := hPn.2; omega
        obtain ⟨pa, pk, rfl, hprow, -, -⟩ := own_slice hrow
        have HPR := hid hprow
        obtain ⟨NP, hNP⟩ : ∃ NP, NP = (packets P').length := ⟨_, rfl⟩
        rw [← hNP] at hPL
        rw [← hNP]
        have HNP := hid hNP
        have HNN := hid hNn
        have HPN := hid hPn
        clear hNP hnP hcar hprow hrow hb4 KP HM hNn hPn HN HP
        go_wp2_with fail
        go_loopg [13, 14] n (fun g s13 s14 wr => ∃ (c q : Nat), g + c = n ∧ s14 = .int .i64 c ∧ s13 = .int .i64 q ∧ Aside (q = (pkL P' (carK P' c)).length) ∧ Aside (Below w4.heap.size w4 wr))
        case atStart => exact ⟨0, 0, rfl, rfl, rfl, rfl, Below.refl _ _⟩
        case round =>
          obtain ⟨c, q, hc, rfl, rfl, HQ, HB⟩ := hrel
          by_cases hcn : c < n
          · have hw8 : IntKind.u8.wrap (c : Int) = c := by rw [IntKind.wrap_u8]; omega
            have i0 : (0 : Int) ≤ (c : Int) := by omega
            have i1 : (c : Int) < (n : Int) := by omega
            obtain ⟨va, vk, hVc, -⟩ := HM4.out.slice hcn
            have hSl := HNN.out.le c
            obtain ⟨N, hN⟩ : ∃ N, N = (S' c).length := ⟨_, rfl⟩
            rw [← hN] at hVc hSl
            have HNl := hid hN
            have HVC := hid hVc
            obtain ⟨W0, hW0⟩ : ∃ W0, W0 = wr := ⟨_, rfl⟩
            subst hW0
            have KV : Hid (∀ wx, Below W0.heap.size W0 wx → wx.cell? ⟨sb, c, none⟩ = some (.slice va N vk)) := hid (fun wx hb => by
              have := ((HM4.out.kept HB.out).kept hb).mat.cell c (v := .slice va N vk) (by simp [hcn, HVC.out])
              exact this)
            have KR : Hid (∀ wx, Below W0.heap.size W0 wx → Row wx va (cellsL encMsg (S' c))) := hid (fun wx hb => by
              obtain ⟨a2, k2, h1, h2⟩ := ((HM4.out.kept HB.out).kept hb).slice hcn
              rw [HVC.out] at h1
              cases h1
              exact h2)
            have KG : Hid (∀ wx, Below W0.heap.size W0 wx → Calls Try.prog 13 #[.pointer (some ⟨pb, 0, none⟩), .int .u8 c] wx fun e w' => e = .returned (.int .u64 N) ∧ Below wx.heap.size wx w') := hid (fun wx hb => by
              obtain ⟨T, -, hat⟩ := HM4.out.at
              have := given_at T pb P' c wx (hat wx (HB.out.trans (hb.mono HB.out.size))).1 i0 (by omega)
              rw [num_given HNN.out c, ← HNl.out] at this
              exact this)
            have KL : Hid (∀ wx, Below W0.heap.size W0 wx → Calls Try.prog 14 #[.pointer (some ⟨pb, 0, none⟩), .int .u8 c] wx fun e w' => e = .returned (.int .i64 (lenP P' c)) ∧ Below wx.heap.size wx w') := hid (fun wx hb => by
              obtain ⟨T, -, hat⟩ := HM4.out.at
              exact len_at T pb P' c wx (hat wx (HB.out.trans (hb.mono HB.out.size))).1 i0 (by omega))
            have hmx : Try.prog.follows .mixedOrders = true := by kernel_rfl
            have wN : IntKind.u64.wrap (N : Int) = N := by rw [IntKind.wrap_u64]; omega
            clear hN hVc
            go_upto_region 24 with fail
            refine wp_region_flow (fun k => (#[.pointer (some ⟨pb, 0, none⟩), .int .u8 (c : Int), .int .u64 (N : Int), .slice (some ⟨sb, 0, none⟩) n n, .int .i64 (c : Int), .pointer (some ⟨sb, c, none⟩), .slice va N vk, .int .i64 (N : Int), .int .u64 (N : Int), .bool false] : Array Value).getD k undef) (fun _ wx => Below W0.heap.size W0 wx) [] [] [0, 0, 0, 0, 0, 0, 0, 0, 0, 0] [0, 0, 0, 0, 0, 0, 0, 0, 0, 0] hmx (by kernel_rfl) (by kernel_rfl) (Below.refl _ _).drew ?_ ?_
            · simp only [ssaAct, Act.put, List.setIfInBounds_toArray, List.set_cons_zero, List.set_cons_succ, Nat.zero_add, Nat.reduceAdd]
              refine ⟨?_, ?_, ?_, ?_, ?_, ?_, ?_, ?_, ?_, ?_, trivial⟩
              · intro k wx hl hh _ hO -- 0: move t7
                obtain rfl : k = 0 := by simp at hl hh; omega
                unfold OpDoes
                go_simp
              · intro k wx hl hh _ hO -- 1: move t15
                obtain rfl : k = 0 := by simp at hl hh; omega
                unfold OpDoes
                go_simp
              · intro k wx hl hh _ hO -- 2: call { value (Operand.func 13), args := #[t89, t90], argTypes := #[24, 5] }
                obtain rfl : k = 0 := by simp at hl hh; omega
                refine (if_pos (by rfl)).mpr ?_
                unfold Oper.wp
                go_simp
                refine (KG.out _ hO).mono ?_
                rintro e wy ⟨rfl, hb⟩
                go_simp
                exact hO.trans (hb.mono hO.size)
              · intro k wx hl hh _ hO -- 3: move t9
                obtain rfl : k = 0 := by simp at hl hh; omega
                unfold OpDoes
                go_simp
              · intro k wx hl hh _ hO -- 4: move t14
                obtain rfl : k = 0 := by simp at hl hh; omega
                unfold OpDoes
                go_simp
              · intro k wx hl hh _ hO -- 5: indexAddr 55 t92 t93
                obtain rfl : k = 0 := by simp at hl hh; omega
                unfold OpDoes
                go_simp
              · intro k wx hl hh _ hO -- 6: load 28 t94
                obtain rfl : k = 0 := by simp at hl hh; omega
                have k0 := KV.out _ hO
                unfold OpDoes
                go_simp
              · intro k wx hl hh _ hO -- 7: call { builtin len, args := #[t95], argTypes := #[28] }
                obtain rfl : k = 0 := by simp at hl hh; omega
                unfold OpDoes
                go_simp
              · intro k wx hl hh _ hO -- 8: convert 3 31 t96
                obtain rfl : k = 0 := by simp at hl hh; omega
                unfold OpDoes
                go_simp
              · intro k wx hl hh _ hO -- 9: binOp BinOp.neq 31 t91 t97 31
                obtain rfl : k = 0 := by simp at hl hh; omega
                unfold OpDoes
                go_simp
            · intro wx hO
              simp only [ssaAct, Act.put, List.setIfInBounds_toArray, List.set_cons_zero, List.set_cons_succ, Nat.zero_add, Nat.reduceAdd]
              have HO := hid hO
              clear hO
              go_wp2_with fail
              refine (KL.out _ HO.out).mono ?_
              rintro e wl ⟨rfl, hb⟩
              have HL := hid (HO.out.trans (hb.mono HO.out.size))
              clear hb HO wx KL
              obtain ⟨L, hL, hL2⟩ : ∃ L : Nat, lenP P' c = L ∧ L = if P'.other c = true then (P'.box c).wait.length else 0 := by
                unfold lenP
                split
                · exact ⟨_, rfl, rfl⟩
                · exact ⟨0, rfl, rfl⟩
              rw [hL]
              have HL2 := hid hL2
              have hL32 : L ≤ 32 := by
                rw [hL2]
                split
                · exact (HNN.out.ok.box c).len
                · omega
              clear hL hL2
              go_wp2_with fail
              go_loopg [13, 16] L (fun g s13 s16 wr => ∃ q2 : Nat, g ≤ L ∧ q2 + g = q + L ∧ s13 = .int .i64 q2 ∧ s16 = .int .i64 g ∧ Aside (Below W0.heap.size W0 wr))
              case atStart => exact ⟨q, Nat.le_refl _, rfl, rfl, rfl, HL.out⟩
              case round =>
                obtain ⟨q2, hg, hq2, rfl, rfl, HBr⟩ := hrel
                cases gk with
                | zero =>
                  have HQ2 := hid (show q2 = (pkL P' (carK P' (c + 1))).length by
                    rw [pkL_step, ← HQ.out, ← HL2.out]; omega)
                  go_wp2_with fail
                  go_roundg (gk - 1)
                  case measure => omega
                  case rel => exact ⟨c + 1, q2, by omega, by go_num, rfl, HQ2.out, HB.out.trans (HBr.out.mono HB.out.size)⟩
                | succ g =>
                  have ho : P'.other c = true := by
                    cases ho : P'.other c with
                    | true => rfl
                    | false => have := HL2.out; rw [if_neg (by rw [ho]; decide)] at this; omega
                  have hLw : L = (P'.box c).wait.length := by have := HL2.out; rwa [if_pos ho] at this
                  obtain ⟨t, ht⟩ : ∃ t, t + (g + 1) = L := ⟨L - (g + 1), by omega⟩
                  have htw : t < (P'.box c).wait.length := by omega
                  obtain ⟨p1, p2⟩ := packets_get ho htw
                  obtain ⟨s1, s2⟩ := num_wait HNN.out ho htw
                  have hQ := HQ.out
                  have eq2 : (pkL P' (carK P' c)).length + t = q2 := by omega
                  obtain ⟨r, hr⟩ : ∃ r, r = (S' c).length - (P'.box c).wait.length + t := ⟨_, rfl⟩
                  rw [← HNl.out] at s1 hr
                  have hdn : doneX (P'.box c) + 1 + t = (r : Int) + 1 := by
                    have h1 := HNN.out.given c ho
                    rw [← HNl.out] at h1
                    have h2 := (HNN.out.ok.box c).le
                    unfold doneX
                    omega
                  obtain ⟨b2, o2, rfl, hcp⟩ := HPR.out.thing encPk_len p1 (by decide)
                  obtain ⟨b3, o3, hva, ldm⟩ := (KR.out wr HBr.out).load encMsg_len (k := r) (by rw [← HNl.out, hr]; exact s1) (by decide)
                  subst hva
                  have em : (S' c)[r]'(by rw [← HNl.out, hr]; exact s1) = (P'.box c).wait[t] := by
                    have : ∀ (k : Nat) (hk : k < (S' c).length), k = (S' c).length - (P'.box c).wait.length + t → (S' c)[k] = (P'.box c).wait[t] := by
                      rintro k hk rfl; exact s2
                    exact this r _ (by rw [hr, HNl.out])
                  clear ldm
                  obtain ⟨m, hmm⟩ : ∃ m, m = (P'.box c).wait[t] := ⟨_, rfl⟩
                  rw [← hmm] at em p2
                  obtain ⟨mk, tc, tr, ix, lc, lf, lx, mv, st, nn, am, cd⟩ := m
                  have KM : Hid (∀ wx, Below W0.heap.size W0 wx → Sem.run Try.prog (loadCellsFrom ⟨b3, o3 + r * 12, none⟩ 0 12 #[]) wx = .ok #[.int .u8 mk, .int .u8 tc, .int .u64 tr, .int .u8 ix, .int .u8 lc, .int .u16 lf, .int .u32 lx, .int .i64 mv, .int .u8 st, .int .u32 nn, .int .i64 am, .int .i64 cd] wx) := hid (fun wx hb => by
                    obtain ⟨b4, o4, h1, h2⟩ := (KR.out wx hb).load encMsg_len (k := r) (by rw [← HNl.out, hr]; exact s1) (by decide)
                    cases h1
                    rw [em] at h2
                    exact h2)
                  have hcp2 : ∀ j, j < 16 → w4.cell? ⟨b2, o2 + q2 * 16 + j, none⟩ = some ((encPk ⟨P'.self, c, (r : Int) + 1, ⟨mk, tc, tr, ix, lc, lf, lx, mv, st, nn, am, cd⟩⟩).getD j undef) := fun j hj => by
                    have := hcp j hj
                    rw [p2, eq2, hdn, ← Nat.add_assoc] at this
                    exact this
                  have hb2 : b2 < w4.heap.size := World.block_lt_of_cell? w4 _ (hcp2 0 (by decide))
                  have hcx : ∀ wx, Below W0.heap.size W0 wx → ∀ j, j < 16 → wx.cell? ⟨b2, o2 + q2 * 16 + j, none⟩ = some ((encPk ⟨P'.self, c, (r : Int) + 1, ⟨mk, tc, tr, ix, lc, lf, lx, mv, st, nn, am, cd⟩⟩).getD j undef) := fun wx hb j hj =>
                    ((HB.out.trans (hb.mono HB.out.size)).cell (p := ⟨b2, o2 + q2 * 16 + j, none⟩) hb2).trans (hcp2 j hj)
                  have KC : Hid (∀ wx, Below W0.heap.size W0 wx → wx.cell? ⟨b2, o2 + q2 * 16, none⟩ = some (.int .u8 sf) ∧ wx.cell? ⟨b2, o2 + q2 * 16 + 1, none⟩ = some (.int .u8 (c : Int)) ∧ wx.cell? ⟨b2, o2 + q2 * 16 + 2, none⟩ = some (.bool false) ∧ wx.cell? ⟨b2, o2 + q2 * 16 + 3, none⟩ = some (.int .u64 ((r : Int) + 1)) ∧ Sem.run Try.prog (loadCellsFrom ⟨b2, o2 + q2 * 16 + 4, none⟩ 0 12 #[]) wx = .ok #[.int .u8 mk, .int .u8 tc, .int .u64 tr, .int .u8 ix, .int .u8 lc, .int .u16 lf, .int .u32 lx, .int .i64 mv, .int .u8 st, .int .u32 nn, .int .i64 am, .int .i64 cd] wx) := hid (fun wx hb => by
                    have h := hcx wx hb
                    refine ⟨?_, h 1 (by decide), h 2 (by decide), h 3 (by decide), ?_⟩
                    · have := h 0 (by decide)
                      rw [← HPN.out.1]
                      exact this
                    · refine run_loadCellsFrom_list Try.prog wx (Addr.mk b2 (o2 + q2 * 16 + 4) none) (encMsg ⟨mk, tc, tr, ix, lc, lf, lx, mv, st, nn, am, cd⟩) 12 rfl (fun i u hi => ?_)
                      have hi12 : i < 12 := by
                        rcases Nat.lt_or_ge i 12 with h | h
                        · exact h
                        · rw [List.getElem?_eq_none (by rw [encMsg_len]; exact h)] at hi; cases hi
                      have e : (Addr.mk b2 (o2 + q2 * 16 + 4) none).add i = ⟨b2, o2 + q2 * 16 + (4 + i), none⟩ := by
                        unfold Addr.add
                        split
                        · rename_i e; subst e; rfl
                        · rw [← Nat.add_assoc]
                      rw [e, h (4 + i) (by omega), List.getD_eq_getElem?_getD]
                      have : (encPk ⟨P'.self, c, (r : Int) + 1, ⟨mk, tc, tr, ix, lc, lf, lx, mv, st, nn, am, cd⟩⟩)[4 + i]? = some u := by
                        rw [← hi]
                        match i, hi12 with
                        | 0, _ | 1, _ | 2, _ | 3, _ | 4, _ | 5, _ | 6, _ | 7, _ | 8, _ | 9, _ | 10, _ | 11, _ => rfl
                      rw [this]; rfl)
                  have j0 : (0 : Int) ≤ (q2 : Int) := by omega
                  have j1 : (q2 : Int) < (NP : Int) := by have := HNP.out; omega
                  have l0 : (0 : Int) ≤ (r : Int) := by omega
                  have l1 : (r : Int) < (N : Int) := by omega
                  obtain ⟨g1, hg1⟩ : ∃ g1, g1 = g + 1 := ⟨_, rfl⟩
                  have hrg : N = r + g1 := by
                    have h1 := HNN.out.given c ho
                    rw [← HNl.out] at h1
                    have h2 := (HNN.out.ok.box c).le
                    omega
                  have wG : Hid (IntKind.u64.wrap (g1 : Int) = g1) := hid (by rw [IntKind.wrap_u64]; omega)
                  have wR : Hid (IntKind.u64.wrap ((N : Int) - g1) = r) := hid (by rw [IntKind.wrap_u64]; omega)
                  have wR1 : Hid (IntKind.u64.wrap ((r : Int) + 1) = r + 1) := hid (by rw [IntKind.wrap_u64]; omega)
                  have wR2 : Hid (IntKind.u64.wrap (r : Int) = r) := hid (by rw [IntKind.wrap_u64]; omega)
                  have gp : (0 : Int) < (g1 : Int) := by omega
                  rw [← hg1]
                  have HG1 := hid hg1
                  have HQ2 := hid (show q2 + 1 + g = q + L by omega)
                  have hg' : g ≤ L := by omega
                  clear hcp hcp2 hcx em p1 p2 s1 s2 hmm hdn hr hg1 hrg hq2 hg ht htw eq2 hLw hQ wN
                  go_upto_region 29 with fail
                  refine wp_region_vals (fun k => (#[.int .i64 (q2 : Int), .slice (some ⟨b2, o2, none⟩) NP pk, .int .i64 (NP : Int), .bool false, .bool false, .slice (some ⟨b2, o2, none⟩) NP pk, .int .i64 (q2 : Int), .pointer (some ⟨b2, o2 + q2 * 16, none⟩), .pointer (some ⟨b2, o2 + q2 * 16 + 1, none⟩), .int .u8 (c : Int), .int .u8 (c : Int), .bool false, .bool false, .bool false, .slice (some ⟨b2, o2, none⟩) NP pk, .int .i64 (q2 : Int), .pointer (some ⟨b2, o2 + q2 * 16, none⟩), .pointer (some ⟨b2, o2 + q2 * 16, none⟩), .int .u8 sf, .int .u8 sf, .bool false, .bool false, .bool false, .slice (some ⟨b2, o2, none⟩) NP pk, .int .i64 (q2 : Int), .pointer (some ⟨b2, o2 + q2 * 16, none⟩), .pointer (some ⟨b2, o2 + q2 * 16 + 2, none⟩), .bool false, .bool false, .bool false, .slice (some ⟨b2, o2, none⟩) NP pk, .int .i64 (q2 : Int), .pointer (some ⟨b2, o2 + q2 * 16, none⟩), .pointer (some ⟨b2, o2 + q2 * 16 + 3, none⟩), .int .u64 ((r : Int) + 1), .pointer (some ⟨pb, 0, none⟩), .int .u8 (c : Int), .int .u64 (N : Int), .int .i64 (g1 : Int), .int .u64 (g1 : Int), .int .u64 (r : Int), .int .u64 ((r : Int) + 1), .bool false, .bool false, .bool false, .slice (some ⟨b2, o2, none⟩) NP pk, .int .i64 (q2 : Int), .pointer (some ⟨b2, o2 + q2 * 16, none⟩), .pointer (some ⟨b2, o2 + q2 * 16 + 4, none⟩), .agg #[.int .u8 mk, .int .u8 tc, .int .u64 tr, .int .u8 ix, .int .u8 lc, .int .u16 lf, .int .u32 lx, .int .i64 mv, .int .u8 st, .int .u32 nn, .int .i64 am, .int .i64 cd], .slice (some ⟨sb, 0, none⟩) n n, .int .i64 (c : Int), .pointer (some ⟨sb, c, none⟩), .slice (some ⟨b3, o3, none⟩) N vk, .slice (some ⟨b2, o2, none⟩) NP pk, .int .i64 (q2 : Int), .pointer (some ⟨b2, o2 + q2 * 16, none⟩), .pointer (some ⟨b2, o2 + q2 * 16 + 3, none⟩), .int .u64 ((r : Int) + 1), .int .u64 (r : Int), .pointer (some ⟨b3, o3 + r * 12, none⟩), .agg #[.int .u8 mk, .int .u8 tc, .int .u64 tr, .int .u8 ix, .int .u8 lc, .int .u16 lf, .int .u32 lx, .int .i64 mv, .int .u8 st, .int .u32 nn, .int .i64 am, .int .i64 cd], .bool false, .bool false] : Array Value).getD k undef) (fun _ wx => Below W0.heap.size W0 wx) [] [] [0, 0, 0, 0, 0, 0, 0, 0, 0, 0, 0, 0, 0, 0, 0, 0, 0, 0, 0, 0, 0, 0, 0, 0, 0, 0, 0, 0, 0, 0, 0, 0, 0, 0, 0, 0, 0, 0, 0, 0, 0, 0, 0, 0, 0, 0, 0, 0, 0, 0, 0, 0, 0, 0, 0, 0, 0, 0, 0, 0, 0, 0, 0, 0] [0, 0, 0, 0, 0, 0, 0, 0, 0, 0, 0, 0, 0, 0, 0, 0, 0, 0, 0, 0, 0, 0, 0, 0, 0, 0, 0, 0, 0, 0, 0, 0, 0, 0, 0, 0, 0, 0, 0, 0, 0, 0, 0, 0, 0, 0, 0, 0, 0, 0, 0, 0, 0, 0, 0, 0, 0, 0, 0, 0, 0, 0, 0, 0] hmx (by kernel_rfl) (by kernel_rfl) (by kernel_rfl) HBr.out.drew ?_ ?_
                  · intro ρ hc hg hf hd ho
                    refine ⟨?_, ?_, ?_, ?_, ?_, ?_, ?_, ?_, ?_, ?_, ?_, ?_, ?_, ?_, ?_, ?_, ?_, ?_, ?_, ?_, ?_, ?_, ?_, ?_, ?_, ?_, ?_, ?_, ?_, ?_, ?_, ?_, ?_, ?_, ?_, ?_, ?_, ?_, ?_, ?_, ?_, ?_, ?_, ?_, ?_, ?_, ?_, ?_, ?_, ?_, ?_, ?_, ?_, ?_, ?_, ?_, ?_, ?_, ?_, ?_, ?_, ?_, ?_, ?_, trivial⟩
                    · intro k wx hl hh _ hO -- 0: move t13
                      have e13 : ρ (.tmp 13) = .int .i64 (q2 : Int) := ho 13 (by rfl)
                      obtain rfl : k = 0 := by simp at hl hh; omega
                      refine (if_pos (by rfl)).mpr ?_
                      simp [go_sem, execOp, resolve, invoke, builtin, opRes_value, opRes_skip, opRes_enter, hc, hg, hf, hO, e13]
                    · intro k wx hl hh _ hO -- 1: move t12
                      have e12 : ρ (.tmp 12) = .slice (some ⟨b2, o2, none⟩) NP pk := ho 12 (by rfl)
                      obtain rfl : k = 0 := by simp at hl hh; omega
                      refine (if_pos (by rfl)).mpr ?_
                      simp [go_sem, execOp, resolve, invoke, builtin, opRes_value, opRes_skip, opRes_enter, hc, hg, hf, hO, e12]
                    · intro k wx hl hh _ hO -- 2: call { builtin len, args := #[t107], argTypes := #[29] }
                      have e107 : ρ (.tmp 107) = .slice (some ⟨b2, o2, none⟩) NP pk := hd 1 _ 107 rfl rfl
                      obtain rfl : k = 0 := by simp at hl hh; omega
                      refine (if_pos (by rfl)).mpr ?_
                      simp [go_sem, execOp, resolve, invoke, builtin, opRes_value, opRes_skip, opRes_enter, hc, hg, hf, hO, e107]
                    · intro k wx hl hh _ hO -- 3: binOp BinOp.geq 3 t106 t108 3
                      have e106 : ρ (.tmp 106) = .int .i64 (q2 : Int) := hd 0 _ 106 rfl rfl
                      have e108 : ρ (.tmp 108) = .int .i64 (NP : Int) := hd 2 _ 108 rfl rfl
                      obtain rfl : k = 0 := by simp at hl hh; omega
                      refine (if_pos (by rfl)).mpr ?_
                      have f0 := (show q2 < NP by omega)
                      simp [go_sem, execOp, resolve, invoke, builtin, opRes_value, opRes_skip, opRes_enter, hc, hg, hf, hO, e106, e108, f0]
                    · intro k wx hl hh _ hO -- 4: move t109
                      have e109 : ρ (.tmp 109) = .bool false := hd 3 _ 109 rfl rfl
                      obtain rfl : k = 0 := by simp at hl hh; omega
                      refine (if_pos (by rfl)).mpr ?_
                      simp [go_sem, execOp, resolve, invoke, builtin, opRes_value, opRes_skip, opRes_enter, hc, hg, hf, hO, e109]
                    · intro k wx hl hh _ hO -- 5: move t12
                      have e12 : ρ (.tmp 12) = .slice (some ⟨b2, o2, none⟩) NP pk := ho 12 (by rfl)
                      obtain rfl : k = 0 := by simp at hl hh; omega
                      refine (if_pos (by rfl)).mpr ?_
                      simp [go_sem, execOp, resolve, invoke, builtin, opRes_value, opRes_skip, opRes_enter, hc, hg, hf, hO, e12]
                    · intro k wx hl hh _ hO -- 6: move t13
                      have e13 : ρ (.tmp 13) = .int .i64 (q2 : Int) := ho 13 (by rfl)
                      obtain rfl : k = 0 := by simp at hl hh; omega
                      refine (if_pos (by rfl)).mpr ?_
                      simp [go_sem, execOp, resolve, invoke, builtin, opRes_value, opRes_skip, opRes_enter, hc, hg, hf, hO, e13]
                    · intro k wx hl hh _ hO -- 7: indexAddr 29 t111 t112
                      have e111 : ρ (.tmp 111) = .slice (some ⟨b2, o2, none⟩) NP pk := hd 5 _ 111 rfl rfl
                      have e112 : ρ (.tmp 112) = .int .i64 (q2 : Int) := hd 6 _ 112 rfl rfl
                      obtain rfl : k = 0 := by simp at hl hh; omega
                      refine (if_pos (by rfl)).mpr ?_
                      have f0 := j0
                      have f1 := j1
                      simp [go_sem, execOp, resolve, invoke, builtin, opRes_value, opRes_skip, opRes_enter, hc, hg, hf, hO, e111, e112, f0, f1]
                    · intro k wx hl hh _ hO -- 8: fieldAddr 50 t113 1
                      have e113 : ρ (.tmp 113) = .pointer (some ⟨b2, o2 + q2 * 16, none⟩) := hd 7 _ 113 rfl rfl
                      obtain rfl : k = 0 := by simp at hl hh; omega
                      refine (if_pos (by rfl)).mpr ?_
                      simp [go_sem, execOp, resolve, invoke, builtin, opRes_value, opRes_skip, opRes_enter, hc, hg, hf, hO, e113]
                    · intro k wx hl hh _ hO -- 9: load 5 t114
                      have e114 : ρ (.tmp 114) = .pointer (some ⟨b2, o2 + q2 * 16 + 1, none⟩) := hd 8 _ 114 rfl rfl
                      obtain rfl : k = 0 := by simp at hl hh; omega
                      refine (if_pos (by rfl)).mpr ?_
                      have f0 := (KC.out _ hO).2.1
                      simp [go_sem, execOp, resolve, invoke, builtin, opRes_value, opRes_skip, opRes_enter, hc, hg, hf, hO, e114, f0]
                    · intro k wx hl hh _ hO -- 10: move t15
                      have e15 : ρ (.tmp 15) = .int .u8 (c : Int) := ho 15 (by rfl)
                      obtain rfl : k = 0 := by simp at hl hh; omega
                      refine (if_pos (by rfl)).mpr ?_
                      simp [go_sem, execOp, resolve, invoke, builtin, opRes_value, opRes_skip, opRes_enter, hc, hg, hf, hO, e15]
                    · intro k wx hl hh _ hO -- 11: binOp BinOp.neq 5 t115 t116 5
                      have e115 : ρ (.tmp 115) = .int .u8 (c : Int) := hd 9 _ 115 rfl rfl
                      have e116 : ρ (.tmp 116) = .int .u8 (c : Int) := hd 10 _ 116 rfl rfl
                      obtain rfl : k = 0 := by simp at hl hh; omega
                      refine (if_pos (by rfl)).mpr ?_
                      simp [go_sem, execOp, resolve, invoke, builtin, opRes_value, opRes_skip, opRes_enter, hc, hg, hf, hO, e115, e116]
                    · intro k wx hl hh _ hO -- 12: pick t110 (const (Value.bool true)) t117
                      have e110 : ρ (.tmp 110) = .bool false := hd 4 _ 110 rfl rfl
                      have e117 : ρ (.tmp 117) = .bool false := hd 11 _ 117 rfl rfl
                      obtain rfl : k = 0 := by simp at hl hh; omega
                      refine (if_pos (by rfl)).mpr ?_
                      simp [go_sem, execOp, resolve, invoke, builtin, opRes_value, opRes_skip, opRes_enter, hc, hg, hf, hO, e110, e117]
                    · intro k wx hl hh _ hO -- 13: move t118
                      have e118 : ρ (.tmp 118) = .bool false := hd 12 _ 118 rfl rfl
                      obtain rfl : k = 0 := by simp at hl hh; omega
                      refine (if_pos (by rfl)).mpr ?_
                      simp [go_sem, execOp, resolve, invoke, builtin, opRes_value, opRes_skip, opRes_enter, hc, hg, hf, hO, e118]
                    · intro k wx hl hh _ hO -- 14: move t12
                      have e12 : ρ (.tmp 12) = .slice (some ⟨b2, o2, none⟩) NP pk := ho 12 (by rfl)
                      obtain rfl : k = 0 := by simp at hl hh; omega
                      refine (if_pos (by rfl)).mpr ?_
                      simp [go_sem, execOp, resolve, invoke, builtin, opRes_value, opRes_skip, opRes_enter, hc, hg, hf, hO, e12]
                    · intro k wx hl hh _ hO -- 15: move t13
                      have e13 : ρ (.tmp 13) = .int .i64 (q2 : Int) := ho 13 (by rfl)
                      obtain rfl : k = 0 := by simp at hl hh; omega
                      refine (if_pos (by rfl)).mpr ?_
                      simp [go_sem, execOp, resolve, invoke, builtin, opRes_value, opRes_skip, opRes_enter, hc, hg, hf, hO, e13]
                    · intro k wx hl hh _ hO -- 16: indexAddr 29 t120 t121
                      have e120 : ρ (.tmp 120) = .slice (some ⟨b2, o2, none⟩) NP pk := hd 14 _ 120 rfl rfl
                      have e121 : ρ (.tmp 121) = .int .i64 (q2 : Int) := hd 15 _ 121 rfl rfl
                      obtain rfl : k = 0 := by simp at hl hh; omega
                      refine (if_pos (by rfl)).mpr ?_
                      have f0 := j0
                      have f1 := j1
                      simp [go_sem, execOp, resolve, invoke, builtin, opRes_value, opRes_skip, opRes_enter, hc, hg, hf, hO, e120, e121, f0, f1]
                    · intro k wx hl hh _ hO -- 17: fieldAddr 50 t122 0
                      have e122 : ρ (.tmp 122) = .pointer (some ⟨b2, o2 + q2 * 16, none⟩) := hd 16 _ 122 rfl rfl
                      obtain rfl : k = 0 := by simp at hl hh; omega
                      refine (if_pos (by rfl)).mpr ?_
                      simp [go_sem, execOp, resolve, invoke, builtin, opRes_value, opRes_skip, opRes_enter, hc, hg, hf, hO, e122]
                    · intro k wx hl hh _ hO -- 18: load 5 t123
                      have e123 : ρ (.tmp 123) = .pointer (some ⟨b2, o2 + q2 * 16, none⟩) := hd 17 _ 123 rfl rfl
                      obtain rfl : k = 0 := by simp at hl hh; omega
                      refine (if_pos (by rfl)).mpr ?_
                      have f0 := (KC.out _ hO).1
                      simp [go_sem, execOp, resolve, invoke, builtin, opRes_value, opRes_skip, opRes_enter, hc, hg, hf, hO, e123, f0]
                    · intro k wx hl hh _ hO -- 19: move t0
                      have e0 : ρ (.tmp 0) = .int .u8 sf := ho 0 (by rfl)
                      obtain rfl : k = 0 := by simp at hl hh; omega
                      refine (if_pos (by rfl)).mpr ?_
                      simp [go_sem, execOp, resolve, invoke, builtin, opRes_value, opRes_skip, opRes_enter, hc, hg, hf, hO, e0]
                    · intro k wx hl hh _ hO -- 20: binOp BinOp.neq 5 t124 t125 5
                      have e124 : ρ (.tmp 124) = .int .u8 sf := hd 18 _ 124 rfl rfl
                      have e125 : ρ (.tmp 125) = .int .u8 sf := hd 19 _ 125 rfl rfl
                      obtain rfl : k = 0 := by simp at hl hh; omega
                      refine (if_pos (by rfl)).mpr ?_
                      simp [go_sem, execOp, resolve, invoke, builtin, opRes_value, opRes_skip, opRes_enter, hc, hg, hf, hO, e124, e125]
                    · intro k wx hl hh _ hO -- 21: pick t119 (const (Value.bool true)) t126
                      have e119 : ρ (.tmp 119) = .bool false := hd 13 _ 119 rfl rfl
                      have e126 : ρ (.tmp 126) = .bool false := hd 20 _ 126 rfl rfl
                      obtain rfl : k = 0 := by simp at hl hh; omega
                      refine (if_pos (by rfl)).mpr ?_
                      simp [go_sem, execOp, resolve, invoke, builtin, opRes_value, opRes_skip, opRes_enter, hc, hg, hf, hO, e119, e126]
                    · intro k wx hl hh _ hO -- 22: move t127
                      have e127 : ρ (.tmp 127) = .bool false := hd 21 _ 127 rfl rfl
                      obtain rfl : k = 0 := by simp at hl hh; omega
                      refine (if_pos (by rfl)).mpr ?_
                      simp [go_sem, execOp, resolve, invoke, builtin, opRes_value, opRes_skip, opRes_enter, hc, hg, hf, hO, e127]
                    · intro k wx hl hh _ hO -- 23: move t12
                      have e12 : ρ (.tmp 12) = .slice (some ⟨b2, o2, none⟩) NP pk := ho 12 (by rfl)
                      obtain rfl : k = 0 := by simp at hl hh; omega
                      refine (if_pos (by rfl)).mpr ?_
                      simp [go_sem, execOp, resolve, invoke, builtin, opRes_value, opRes_skip, opRes_enter, hc, hg, hf, hO, e12]
                    · intro k wx hl hh _ hO -- 24: move t13
                      have e13 : ρ (.tmp 13) = .int .i64 (q2 : Int) := ho 13 (by rfl)
                      obtain rfl : k = 0 := by simp at hl hh; omega
                      refine (if_pos (by rfl)).mpr ?_
                      simp [go_sem, execOp, resolve, invoke, builtin, opRes_value, opRes_skip, opRes_enter, hc, hg, hf, hO, e13]
                    · intro k wx hl hh _ hO -- 25: indexAddr 29 t129 t130
                      have e129 : ρ (.tmp 129) = .slice (some ⟨b2, o2, none⟩) NP pk := hd 23 _ 129 rfl rfl
                      have e130 : ρ (.tmp 130) = .int .i64 (q2 : Int) := hd 24 _ 130 rfl rfl
                      obtain rfl : k = 0 := by simp at hl hh; omega
                      refine (if_pos (by rfl)).mpr ?_
                      have f0 := j0
                      have f1 := j1
                      simp [go_sem, execOp, resolve, invoke, builtin, opRes_value, opRes_skip, opRes_enter, hc, hg, hf, hO, e129, e130, f0, f1]
                    · intro k wx hl hh _ hO -- 26: fieldAddr 50 t131 2
                      have e131 : ρ (.tmp 131) = .pointer (some ⟨b2, o2 + q2 * 16, none⟩) := hd 25 _ 131 rfl rfl
                      obtain rfl : k = 0 := by simp at hl hh; omega
                      refine (if_pos (by rfl)).mpr ?_
                      simp [go_sem, execOp, resolve, invoke, builtin, opRes_value, opRes_skip, opRes_enter, hc, hg, hf, hO, e131]
                    · intro k wx hl hh _ hO -- 27: load 4 t132
                      have e132 : ρ (.tmp 132) = .pointer (some ⟨b2, o2 + q2 * 16 + 2, none⟩) := hd 26 _ 132 rfl rfl
                      obtain rfl : k = 0 := by simp at hl hh; omega
                      refine (if_pos (by rfl)).mpr ?_
                      have f0 := (KC.out _ hO).2.2.1
                      simp [go_sem, execOp, resolve, invoke, builtin, opRes_value, opRes_skip, opRes_enter, hc, hg, hf, hO, e132, f0]
                    · intro k wx hl hh _ hO -- 28: pick t128 (const (Value.bool true)) t133
                      have e128 : ρ (.tmp 128) = .bool false := hd 22 _ 128 rfl rfl
                      have e133 : ρ (.tmp 133) = .bool false := hd 27 _ 133 rfl rfl
                      obtain rfl : k = 0 := by simp at hl hh; omega
                      refine (if_pos (by rfl)).mpr ?_
                      simp [go_sem, execOp, resolve, invoke, builtin, opRes_value, opRes_skip, opRes_enter, hc, hg, hf, hO, e128, e133]
                    · intro k wx hl hh _ hO -- 29: move t134
                      have e134 : ρ (.tmp 134) = .bool false := hd 28 _ 134 rfl rfl
                      obtain rfl : k = 0 := by simp at hl hh; omega
                      refine (if_pos (by rfl)).mpr ?_
                      simp [go_sem, execOp, resolve, invoke, builtin, opRes_value, opRes_skip, opRes_enter, hc, hg, hf, hO, e134]
                    · intro k wx hl hh _ hO -- 30: move t12
                      have e12 : ρ (.tmp 12) = .slice (some ⟨b2, o2, none⟩) NP pk := ho 12 (by rfl)
                      obtain rfl : k = 0 := by simp at hl hh; omega
                      refine (if_pos (by rfl)).mpr ?_
                      simp [go_sem, execOp, resolve, invoke, builtin, opRes_value, opRes_skip, opRes_enter, hc, hg, hf, hO, e12]
                    · intro k wx hl hh _ hO -- 31: move t13
                      have e13 : ρ (.tmp 13) = .int .i64 (q2 : Int) := ho 13 (by rfl)
                      obtain rfl : k = 0 := by simp at hl hh; omega
                      refine (if_pos (by rfl)).mpr ?_
                      simp [go_sem, execOp, resolve, invoke, builtin, opRes_value, opRes_skip, opRes_enter, hc, hg, hf, hO, e13]
                    · intro k wx hl hh _ hO -- 32: indexAddr 29 t136 t137
                      have e136 : ρ (.tmp 136) = .slice (some ⟨b2, o2, none⟩) NP pk := hd 30 _ 136 rfl rfl
                      have e137 : ρ (.tmp 137) = .int .i64 (q2 : Int) := hd 31 _ 137 rfl rfl
                      obtain rfl : k = 0 := by simp at hl hh; omega
                      refine (if_pos (by rfl)).mpr ?_
                      have f0 := j0
                      have f1 := j1
                      simp [go_sem, execOp, resolve, invoke, builtin, opRes_value, opRes_skip, opRes_enter, hc, hg, hf, hO, e136, e137, f0, f1]
                    · intro k wx hl hh _ hO -- 33: fieldAddr 50 t138 3
                      have e138 : ρ (.tmp 138) = .pointer (some ⟨b2, o2 + q2 * 16, none⟩) := hd 32 _ 138 rfl rfl
                      obtain rfl : k = 0 := by simp at hl hh; omega
                      refine (if_pos (by rfl)).mpr ?_
                      simp [go_sem, execOp, resolve, invoke, builtin, opRes_value, opRes_skip, opRes_enter, hc, hg, hf, hO, e138]
                    · intro k wx hl hh _ hO -- 34: load 31 t139
                      have e139 : ρ (.tmp 139) = .pointer (some ⟨b2, o2 + q2 * 16 + 3, none⟩) := hd 33 _ 139 rfl rfl
                      obtain rfl : k = 0 := by simp at hl hh; omega
                      refine (if_pos (by rfl)).mpr ?_
                      have f0 := (KC.out _ hO).2.2.2.1
                      simp [go_sem, execOp, resolve, invoke, builtin, opRes_value, opRes_skip, opRes_enter, hc, hg, hf, hO, e139, f0]
                    · intro k wx hl hh _ hO -- 35: move t7
                      have e7 : ρ (.tmp 7) = .pointer (some ⟨pb, 0, none⟩) := ho 7 (by rfl)
                      obtain rfl : k = 0 := by simp at hl hh; omega
                      refine (if_pos (by rfl)).mpr ?_
                      simp [go_sem, execOp, resolve, invoke, builtin, opRes_value, opRes_skip, opRes_enter, hc, hg, hf, hO, e7]
                    · intro k wx hl hh _ hO -- 36: move t15
                      have e15 : ρ (.tmp 15) = .int .u8 (c : Int) := ho 15 (by rfl)
                      obtain rfl : k = 0 := by simp at hl hh; omega
                      refine (if_pos (by rfl)).mpr ?_
                      simp [go_sem, execOp, resolve, invoke, builtin, opRes_value, opRes_skip, opRes_enter, hc, hg, hf, hO, e15]
                    · intro k wx hl hh _ hO -- 37: call { value (Operand.func 13), args := #[t141, t142], argTypes := #[24, 5] }
                      have e141 : ρ (.tmp 141) = .pointer (some ⟨pb, 0, none⟩) := hd 35 _ 141 rfl rfl
                      have e142 : ρ (.tmp 142) = .int .u8 (c : Int) := hd 36 _ 142 rfl rfl
                      obtain rfl : k = 0 := by simp at hl hh; omega
                      refine (if_pos (by rfl)).mpr ?_
                      simp [go_sem, execOp, resolve, invoke, builtin, opRes_value, opRes_skip, opRes_enter, hc, hg, hf, hO, e141, e142]
                      refine (KG.out _ hO).mono ?_
                      rintro e wy ⟨rfl, hb⟩
                      exact ⟨rfl, hO.trans (hb.mono hO.size)⟩
                    · intro k wx hl hh _ hO -- 38: move t16
                      have e16 : ρ (.tmp 16) = .int .i64 (g1 : Int) := ho 16 (by rfl)
                      obtain rfl : k = 0 := by simp at hl hh; omega
                      refine (if_pos (by rfl)).mpr ?_
                      simp [go_sem, execOp, resolve, invoke, builtin, opRes_value, opRes_skip, opRes_enter, hc, hg, hf, hO, e16]
                    · intro k wx hl hh _ hO -- 39: convert 3 31 t144
                      have e144 : ρ (.tmp 144) = .int .i64 (g1 : Int) := hd 38 _ 144 rfl rfl
                      obtain rfl : k = 0 := by simp at hl hh; omega
                      refine (if_pos (by rfl)).mpr ?_
                      have f0 := wG.out
                      simp [go_sem, execOp, resolve, invoke, builtin, opRes_value, opRes_skip, opRes_enter, hc, hg, hf, hO, e144, f0]
                    · intro k wx hl hh _ hO -- 40: binOp BinOp.sub 31 t143 t145 31
                      have e143 : ρ (.tmp 143) = .int .u64 (N : Int) := hd 37 _ 143 rfl rfl
                      have e145 : ρ (.tmp 145) = .int .u64 (g1 : Int) := hd 39 _ 145 rfl rfl
                      obtain rfl : k = 0 := by simp at hl hh; omega
                      refine (if_pos (by rfl)).mpr ?_
                      have f0 := wR.out
                      simp [go_sem, execOp, resolve, invoke, builtin, opRes_value, opRes_skip, opRes_enter, hc, hg, hf, hO, e143, e145, f0]
                    · intro k wx hl hh _ hO -- 41: binOp BinOp.add 31 t146 (const (1:u64)) 31
                      have e146 : ρ (.tmp 146) = .int .u64 (r : Int) := hd 40 _ 146 rfl rfl
                      obtain rfl : k = 0 := by simp at hl hh; omega
                      refine (if_pos (by rfl)).mpr ?_
                      have f0 := wR1.out
                      simp [go_sem, execOp, resolve, invoke, builtin, opRes_value, opRes_skip, opRes_enter, hc, hg, hf, hO, e146, f0]
                    · intro k wx hl hh _ hO -- 42: binOp BinOp.neq 31 t140 t147 31
                      have e140 : ρ (.tmp 140) = .int .u64 ((r : Int) + 1) := hd 34 _ 140 rfl rfl
                      have e147 : ρ (.tmp 147) = .int .u64 ((r : Int) + 1) := hd 41 _ 147 rfl rfl
                      obtain rfl : k = 0 := by simp at hl hh; omega
                      refine (if_pos (by rfl)).mpr ?_
                      simp [go_sem, execOp, resolve, invoke, builtin, opRes_value, opRes_skip, opRes_enter, hc, hg, hf, hO, e140, e147]
                    · intro k wx hl hh _ hO -- 43: pick t135 (const (Value.bool true)) t148
                      have e135 : ρ (.tmp 135) = .bool false := hd 29 _ 135 rfl rfl
                      have e148 : ρ (.tmp 148) = .bool false := hd 42 _ 148 rfl rfl
                      obtain rfl : k = 0 := by simp at hl hh; omega
                      refine (if_pos (by rfl)).mpr ?_
                      simp [go_sem, execOp, resolve, invoke, builtin, opRes_value, opRes_skip, opRes_enter, hc, hg, hf, hO, e135, e148]
                    · intro k wx hl hh _ hO -- 44: move t149
                      have e149 : ρ (.tmp 149) = .bool false := hd 43 _ 149 rfl rfl
                      obtain rfl : k = 0 := by simp at hl hh; omega
                      refine (if_pos (by rfl)).mpr ?_
                      simp [go_sem, execOp, resolve, invoke, builtin, opRes_value, opRes_skip, opRes_enter, hc, hg, hf, hO, e149]
                    · intro k wx hl hh _ hO -- 45: move t12
                      have e12 : ρ (.tmp 12) = .slice (some ⟨b2, o2, none⟩) NP pk := ho 12 (by rfl)
                      obtain rfl : k = 0 := by simp at hl hh; omega
                      refine (if_pos (by rfl)).mpr ?_
                      simp [go_sem, execOp, resolve, invoke, builtin, opRes_value, opRes_skip, opRes_enter, hc, hg, hf, hO, e12]
                    · intro k wx hl hh _ hO -- 46: move t13
                      have e13 : ρ (.tmp 13) = .int .i64 (q2 : Int) := ho 13 (by rfl)
                      obtain rfl : k = 0 := by simp at hl hh; omega
                      refine (if_pos (by rfl)).mpr ?_
                      simp [go_sem, execOp, resolve, invoke, builtin, opRes_value, opRes_skip, opRes_enter, hc, hg, hf, hO, e13]
                    · intro k wx hl hh _ hO -- 47: indexAddr 29 t151 t152
                      have e151 : ρ (.tmp 151) = .slice (some ⟨b2, o2, none⟩) NP pk := hd 45 _ 151 rfl rfl
                      have e152 : ρ (.tmp 152) = .int .i64 (q2 : Int) := hd 46 _ 152 rfl rfl
                      obtain rfl : k = 0 := by simp at hl hh; omega
                      refine (if_pos (by rfl)).mpr ?_
                      have f0 := j0
                      have f1 := j1
                      simp [go_sem, execOp, resolve, invoke, builtin, opRes_value, opRes_skip, opRes_enter, hc, hg, hf, hO, e151, e152, f0, f1]
                    · intro k wx hl hh _ hO -- 48: fieldAddr 50 t153 4
                      have e153 : ρ (.tmp 153) = .pointer (some ⟨b2, o2 + q2 * 16, none⟩) := hd 47 _ 153 rfl rfl
                      obtain rfl : k = 0 := by simp at hl hh; omega
                      refine (if_pos (by rfl)).mpr ?_
                      simp [go_sem, execOp, resolve, invoke, builtin, opRes_value, opRes_skip, opRes_enter, hc, hg, hf, hO, e153]
                    · intro k wx hl hh _ hO -- 49: load 44 t154
                      have e154 : ρ (.tmp 154) = .pointer (some ⟨b2, o2 + q2 * 16 + 4, none⟩) := hd 48 _ 154 rfl rfl
                      obtain rfl : k = 0 := by simp at hl hh; omega
                      refine (if_pos (by rfl)).mpr ?_
                      have f0 := (KC.out _ hO).2.2.2.2
                      simp [go_sem, execOp, resolve, invoke, builtin, opRes_value, opRes_skip, opRes_enter, hc, hg, hf, hO, e154, f0]
                    · intro k wx hl hh _ hO -- 50: move t9
                      have e9 : ρ (.tmp 9) = .slice (some ⟨sb, 0, none⟩) n n := ho 9 (by rfl)
                      obtain rfl : k = 0 := by simp at hl hh; omega
                      refine (if_pos (by rfl)).mpr ?_
                      simp [go_sem, execOp, resolve, invoke, builtin, opRes_value, opRes_skip, opRes_enter, hc, hg, hf, hO, e9]
                    · intro k wx hl hh _ hO -- 51: move t14
                      have e14 : ρ (.tmp 14) = .int .i64 (c : Int) := ho 14 (by rfl)
                      obtain rfl : k = 0 := by simp at hl hh; omega
                      refine (if_pos (by rfl)).mpr ?_
                      simp [go_sem, execOp, resolve, invoke, builtin, opRes_value, opRes_skip, opRes_enter, hc, hg, hf, hO, e14]
                    · intro k wx hl hh _ hO -- 52: indexAddr 55 t156 t157
                      have e156 : ρ (.tmp 156) = .slice (some ⟨sb, 0, none⟩) n n := hd 50 _ 156 rfl rfl
                      have e157 : ρ (.tmp 157) = .int .i64 (c : Int) := hd 51 _ 157 rfl rfl
                      obtain rfl : k = 0 := by simp at hl hh; omega
                      refine (if_pos (by rfl)).mpr ?_
                      have f0 := i0
                      have f1 := i1
                      simp [go_sem, execOp, resolve, invoke, builtin, opRes_value, opRes_skip, opRes_enter, hc, hg, hf, hO, e156, e157, f0, f1]
                    · intro k wx hl hh _ hO -- 53: load 28 t158
                      have e158 : ρ (.tmp 158) = .pointer (some ⟨sb, c, none⟩) := hd 52 _ 158 rfl rfl
                      obtain rfl : k = 0 := by simp at hl hh; omega
                      refine (if_pos (by rfl)).mpr ?_
                      have f0 := KV.out _ hO
                      simp [go_sem, execOp, resolve, invoke, builtin, opRes_value, opRes_skip, opRes_enter, hc, hg, hf, hO, e158, f0]
                    · intro k wx hl hh _ hO -- 54: move t12
                      have e12 : ρ (.tmp 12) = .slice (some ⟨b2, o2, none⟩) NP pk := ho 12 (by rfl)
                      obtain rfl : k = 0 := by simp at hl hh; omega
                      refine (if_pos (by rfl)).mpr ?_
                      simp [go_sem, execOp, resolve, invoke, builtin, opRes_value, opRes_skip, opRes_enter, hc, hg, hf, hO, e12]
                    · intro k wx hl hh _ hO -- 55: move t13
                      have e13 : ρ (.tmp 13) = .int .i64 (q2 : Int) := ho 13 (by rfl)
                      obtain rfl : k = 0 := by simp at hl hh; omega
                      refine (if_pos (by rfl)).mpr ?_
                      simp [go_sem, execOp, resolve, invoke, builtin, opRes_value, opRes_skip, opRes_enter, hc, hg, hf, hO, e13]
                    · intro k wx hl hh _ hO -- 56: indexAddr 29 t160 t161
                      have e160 : ρ (.tmp 160) = .slice (some ⟨b2, o2, none⟩) NP pk := hd 54 _ 160 rfl rfl
                      have e161 : ρ (.tmp 161) = .int .i64 (q2 : Int) := hd 55 _ 161 rfl rfl
                      obtain rfl : k = 0 := by simp at hl hh; omega
                      refine (if_pos (by rfl)).mpr ?_
                      have f0 := j0
                      have f1 := j1
                      simp [go_sem, execOp, resolve, invoke, builtin, opRes_value, opRes_skip, opRes_enter, hc, hg, hf, hO, e160, e161, f0, f1]
                    · intro k wx hl hh _ hO -- 57: fieldAddr 50 t162 3
                      have e162 : ρ (.tmp 162) = .pointer (some ⟨b2, o2 + q2 * 16, none⟩) := hd 56 _ 162 rfl rfl
                      obtain rfl : k = 0 := by simp at hl hh; omega
                      refine (if_pos (by rfl)).mpr ?_
                      simp [go_sem, execOp, resolve, invoke, builtin, opRes_value, opRes_skip, opRes_enter, hc, hg, hf, hO, e162]
                    · intro k wx hl hh _ hO -- 58: load 31 t163
                      have e163 : ρ (.tmp 163) = .pointer (some ⟨b2, o2 + q2 * 16 + 3, none⟩) := hd 57 _ 163 rfl rfl
                      obtain rfl : k = 0 := by simp at hl hh; omega
                      refine (if_pos (by rfl)).mpr ?_
                      have f0 := (KC.out _ hO).2.2.2.1
                      simp [go_sem, execOp, resolve, invoke, builtin, opRes_value, opRes_skip, opRes_enter, hc, hg, hf, hO, e163, f0]
                    · intro k wx hl hh _ hO -- 59: binOp BinOp.sub 31 t164 (const (1:u64)) 31
                      have e164 : ρ (.tmp 164) = .int .u64 ((r : Int) + 1) := hd 58 _ 164 rfl rfl
                      obtain rfl : k = 0 := by simp at hl hh; omega
                      refine (if_pos (by rfl)).mpr ?_
                      have f0 := wR2.out
                      simp [go_sem, execOp, resolve, invoke, builtin, opRes_value, opRes_skip, opRes_enter, hc, hg, hf, hO, e164, f0]
                    · intro k wx hl hh _ hO -- 60: indexAddr 28 t159 t165
                      have e159 : ρ (.tmp 159) = .slice (some ⟨b3, o3, none⟩) N vk := hd 53 _ 159 rfl rfl
                      have e165 : ρ (.tmp 165) = .int .u64 (r : Int) := hd 59 _ 165 rfl rfl
                      obtain rfl : k = 0 := by simp at hl hh; omega
                      refine (if_pos (by rfl)).mpr ?_
                      have f0 := l0
                      have f1 := l1
                      simp [go_sem, execOp, resolve, invoke, builtin, opRes_value, opRes_skip, opRes_enter, hc, hg, hf, hO, e159, e165, f0, f1]
                    · intro k wx hl hh _ hO -- 61: load 44 t166
                      have e166 : ρ (.tmp 166) = .pointer (some ⟨b3, o3 + r * 12, none⟩) := hd 60 _ 166 rfl rfl
                      obtain rfl : k = 0 := by simp at hl hh; omega
                      refine (if_pos (by rfl)).mpr ?_
                      have f0 := KM.out _ hO
                      simp [go_sem, execOp, resolve, invoke, builtin, opRes_value, opRes_skip, opRes_enter, hc, hg, hf, hO, e166, f0]
                    · intro k wx hl hh _ hO -- 62: binOp BinOp.neq 44 t155 t167 44
                      have e155 : ρ (.tmp 155) = .agg #[.int .u8 mk, .int .u8 tc, .int .u64 tr, .int .u8 ix, .int .u8 lc, .int .u16 lf, .int .u32 lx, .int .i64 mv, .int .u8 st, .int .u32 nn, .int .i64 am, .int .i64 cd] := hd 49 _ 155 rfl rfl
                      have e167 : ρ (.tmp 167) = .agg #[.int .u8 mk, .int .u8 tc, .int .u64 tr, .int .u8 ix, .int .u8 lc, .int .u16 lf, .int .u32 lx, .int .i64 mv, .int .u8 st, .int .u32 nn, .int .i64 am, .int .i64 cd] := hd 61 _ 167 rfl rfl
                      obtain rfl : k = 0 := by simp at hl hh; omega
                      refine (if_pos (by rfl)).mpr ?_
                      simp [go_sem, execOp, resolve, invoke, builtin, opRes_value, opRes_skip, opRes_enter, hc, hg, hf, hO, e155, e167]
                    · intro k wx hl hh _ hO -- 63: pick t150 (const (Value.bool true)) t168
                      have e150 : ρ (.tmp 150) = .bool false := hd 44 _ 150 rfl rfl
                      have e168 : ρ (.tmp 168) = .bool false := hd 62 _ 168 rfl rfl
                      obtain rfl : k = 0 := by simp at hl hh; omega
                      refine (if_pos (by rfl)).mpr ?_
                      simp [go_sem, execOp, resolve, invoke, builtin, opRes_value, opRes_skip, opRes_enter, hc, hg, hf, hO, e150, e168]
                  · intro wx hO
                    simp only [ssaAct, Act.put, List.setIfInBounds_toArray, List.set_cons_zero, List.set_cons_succ, Nat.zero_add, Nat.reduceAdd]
                    have HO := hid hO
                    have e1 : (g1 : Int) - 1 = (g : Int) := by have := HG1.out; omega
                    clear hO
                    go_wp2_with fail
                    go_roundg g
                    case measure => omega
                    case rel => exact ⟨q2 + 1, hg', HQ2.out, by go_num, rfl, HO.out⟩
          · have HQ2 := hid (show q = NP by
              have h1 := HQ.out
              have h2 := HNP.out
              have h3 : c = P'.n.toNat := by have := HPN.out.2; omega
              rw [h1, h2, h3]; rfl)
            have qq : ((q : Int) != (NP : Int)) = false := by
              have := HQ2.out; simp [this]
            have HM5 := hid (HM4.out.kept HB.out)
            clear HM4 HB HQ
            go_wp2_with fail
            go_roundg (G - 1)
            case measure => omega
            case rel => exact ⟨i + 1, P', S', V', by omega, by go_num, HPN.out, HNN.out, HM5.out⟩
    · have HM5 := hid HM.out.below
      go_wp2_with fail
      refine (wakes19 _).mono ?_
      rintro e w' ⟨rfl, hb⟩
      go_wp2
      go_ret
      exact ⟨rfl, HM5.out.trans (hb.mono HM5.out.size)⟩
set_option maxRecDepth 100000 in
theorem numbers_any (sf n : Int) (b : Option Addr) (l : List PAct) (cap : Nat) (w0 : World) (s0 : (Lit.int .u8 sf).wf = true) (n0 : (Lit.int .i64 n).wf = true) (hr : Row w0 b (cellsL encAct l)) (_nn : b = none → cap = 0) (lm : l.length ≤ maxLen) (ok : ∀ x ∈ l, PActOk x) :
    Calls Try.prog 4 #[.int .u8 sf, .int .i64 n, .slice b l.length cap] w0 fun e w' => e = .returned (.bool true) ∧ Below w0.heap.size w0 w' := by
  by_cases hl : 300 < l.length
  · exact numbers_long sf n l b cap w0 lm hl
  · by_cases hn : newE sf n = 0
    · have h2 : 2 ≤ n := by
        unfold newE at hn
        split at hn
        · cases hn
        · omega
      obtain ⟨k, rfl⟩ : ∃ k : Nat, n = k := ⟨n.toNat, by omega⟩
      exact numbers_good sf k l b cap w0 hr ok (by omega) (wfu8' s0) hn
    · exact numbers_none sf n l b cap w0 hl (wfu8' s0) hn
end Go.Proofs.Ytfnneghddndeiaa
