/- POST 7: Packets. -/
import Derived.Test.YtfnneghddndeiaaM0eb1d61
import Derived.RangeFuncFrom
import Derived.RangeFuncWrites
import Derived.Test.YtfnneghddndeiaaSsa
namespace Go.Proofs.Ytfnneghddndeiaa
open Go.RowKit Go.Lib Go.Tk Go.Shelf Go.Maps
attribute [local go_sem] Oper.semAt_some
attribute [-go_sem] loadCellsFrom
structure Pk where
  fr : Int
  dest : Int
  num : Int
  m : Msg
deriving DecidableEq, Inhabited
def encPk (p : Pk) : List Value := [.int .u8 p.fr, .int .u8 p.dest, .bool false, .int .u64 p.num] ++ encMsg p.m
theorem encPk_len (p : Pk) : (encPk p).length = 16 := rfl
theorem encPk_one (p : Pk) : ∀ v ∈ encPk p, v.oneCell' = true := by simp [encPk, encMsg, Value.oneCell']
def pkBox (P : PostV) (c : Nat) : List Pk := (P.box c).wait.zipIdx.map fun q => ⟨P.self, c, doneX (P.box c) + 1 + q.2, q.1⟩
def pkL (P : PostV) (l : List (Car P)) : List Pk := (l.map fun x => pkBox P x.1).flatten
def packets (P : PostV) : List Pk := pkL P (carK P P.n.toNat)
theorem pkL_snoc (P : PostV) (l : List (Car P)) (x : Car P) : pkL P (l ++ [x]) = pkL P l ++ pkBox P x.1 := by simp [pkL]
theorem pkBox_len (P : PostV) (c : Nat) : (pkBox P c).length = (P.box c).wait.length := by simp [pkBox]
theorem pkBox_take {P : PostV} {c j : Nat} (h : j < (P.box c).wait.length) : (pkBox P c).take (j + 1) = (pkBox P c).take j ++ [⟨P.self, c, doneX (P.box c) + 1 + j, (P.box c).wait[j]⟩] := by
  rw [List.take_succ_eq_append_getElem (by rw [pkBox_len]; exact h)]
  simp [pkBox]
theorem pkL_len {P : PostV} (ok : PostOk P) : ∀ l : List (Car P), (pkL P l).length ≤ 32 * l.length
  | [] => by simp [pkL]
  | x :: l => by
    have ih := pkL_len ok l
    have : pkL P (x :: l) = pkBox P x.1 ++ pkL P l := by simp [pkL]
    rw [this, List.length_append, pkBox_len, List.length_cons]
    have := (ok.box x.1).len
    omega
theorem boxed_keeps {X Y : World} {row : Option Nat} {B : Nat} {t : TypeId} {v : Value} (h : Boxed X B t v) (hg : X.grownBy Y row) (hr : ∀ r, row = some r → ∃ o : Obj, X.heap[r]? = some o ∧ o.isCells = false) : Boxed Y B t v :=
  h.kept hg (fun e => by
    obtain ⟨o, ho, hc⟩ := hr B e.symm
    rw [show X.heap[B]? = _ from h] at ho
    cases ho
    cases hc)
theorem pkrow : (Try.prog.info? 50).map (fun i => (i.zero, i.size, i.bytes)) = some (some (.agg #[.int .u8 0, .int .u8 0, .bool false, .int .u64 0, .int .u8 0, .int .u8 0, .int .u64 0, .int .u8 0, .int .u8 0, .int .u16 0, .int .u32 0, .int .i64 0, .int .u8 0, .int .u32 0, .int .i64 0, .int .i64 0]), 16, 88) := by kernel_rfl
set_option maxRecDepth 100000 in
set_option maxHeartbeats 20000000 in
theorem packets_in (F : Fence) (n : Nat) (h9 : F.fn 9) (h19 : F.fn 19) (h27 : F.fn 27) (hro : F.round = none) (hn : 3 ≤ n) (base : Nat) (A : PostA) (P : PostV) (ok : PostOk P) (w : World) (h : PostIn w base A P) :
    CallsIn F n Try.prog 9 #[.pointer (some ⟨A.pb, 0, none⟩)] w fun e w' => ∃ v, e = .returned v ∧ w'.ownsRow w.heap.size 50 16 v (packets P).length (cellsL encPk (packets P)) ∧ Below w.heap.size w w' := by
  have h1 : 1 ≤ n := by omega
  refine callsIn_of_wp_marks Try.func9 rfl h9 ?_ hro
  simp only [Try.ntmps9, List.size_toArray, List.length_cons, List.length_nil, Nat.reduceAdd, Nat.reduceSub, Array.replicate_succ, Array.replicate_zero, List.push_toArray, List.append_toArray, List.nil_append, List.cons_append]
  gi_wp2_with (gi_at_call 19; refine (all_in F (n - 1) h19 hro _ _).mono ?_; rintro e w' ⟨rfl, rfl⟩)
  have bO := Boxed.new (w.alloc (.cells #[.pointer (some ⟨A.pb, 0, none⟩)] 24)) 29 (.slice none 0 0)
  have bN := Boxed.new ((w.alloc (.cells #[.pointer (some ⟨A.pb, 0, none⟩)] 24)).alloc (.cells #[.slice none 0 0] 29)) 24 (.pointer (some ⟨A.pb, 0, none⟩))
  rw [World.size_alloc] at bO
  rw [World.size_alloc, World.size_alloc] at bN
  have hB0 : Below w.heap.size w (((w.alloc (.cells #[.pointer (some ⟨A.pb, 0, none⟩)] 24)).alloc (.cells #[.slice none 0 0] 29)).alloc (.cells #[.pointer (some ⟨A.pb, 0, none⟩)] 24)) := (((Below.refl _ w).alloc (Nat.le_refl _) _).alloc (by simp) _).alloc (by simp; omega) _
  have cP := Boxed.new w 24 (.pointer (some ⟨A.pb, 0, none⟩))
  refine wpIn_rangeFunc_ownG hro h1 (gf := 27) (lb := #[.pointer (some ⟨w.heap.size + 1 + 1, 0, none⟩)]) rfl h27 (enters_of Try.func27 (by kernel_rfl) rfl)
    (all_stops F (n - 1) h27 hro (by omega) (w.heap.size + 1 + 1) base A P ok w _ hB0 h (by simp) bN.cell) KpB.trans (fun W l o o' hl hWl ho hw => ⟨belowK_b (w := w) (Nat.le_refl _) W l o o' (by simp at hl; omega) hWl ho hw, ?hkb⟩) (Below.refl _ _) (fun _ => rfl)
    (fun pre W => ((∃ v, Boxed W (w.heap.size + 1) 29 v ∧ W.ownsRow w.heap.size 50 16 v (pkL P pre).length (cellsL encPk (pkL P pre)) ∧ True) ∧ Below w.heap.size w W) ∧ (Boxed W w.heap.size 24 (.pointer (some ⟨A.pb, 0, none⟩)) ∧ Boxed W (w.heap.size + 1 + 1) 24 (.pointer (some ⟨A.pb, 0, none⟩))))
    (fun _ _ _ => False)
    ?hI
    (fun _ _ _ _ _ hs _ _ => hs)
    ⟨⟨⟨_, bO.alloc _, World.ownsRow_nil _ _ _ _, trivial⟩, hB0⟩, ⟨(cP.alloc _).alloc _, bN⟩⟩
    (fun x => { tmps := #[.pointer (some ⟨A.pb, 0, none⟩), .pointer (some ⟨w.heap.size, 0, none⟩), .slice none 0 0, .pointer (some ⟨w.heap.size + 1, 0, none⟩), .int .u8 (x.1 : Int), .pointer (some ⟨A.bx x.1, 0, none⟩), undef, undef, undef, .pointer (some ⟨A.pb, 0, none⟩), .func (.func 27) #[] #[.pointer (some ⟨w.heap.size + 1 + 1, 0, none⟩)], .int .u8 (x.1 : Int), .pointer (some ⟨A.bx x.1, 0, none⟩), undef, undef, undef, undef, undef, undef, undef, undef, undef, undef, undef, undef, undef, undef, undef, undef, undef, undef, undef, undef, undef, undef, undef, undef, undef, undef, undef, undef, undef, undef, undef, undef, undef, undef, undef, undef, undef, undef], defers := [] }) ?assign ?body ?done ?stop
  case hkb =>
    have hlt := (Array.getElem?_eq_some_iff.1 hWl).1
    simp at hl
    exact (grownBy_putObj' W l o').block _ (by omega) (fun e => by have := Option.some.inj e; omega)
  case hI => exact OwnFrom.and (OwnFrom.and (Own.from (holdsRow_own w.heap.size (w.heap.size + 1) 29 50 16 (fun pre => (pkL P pre).length) (fun pre => cellsL encPk (pkL P pre)) (fun _ _ => True)) _) (ownFrom_below (Nat.le_refl _) (by simp; omega))) (Own.from (fun _ _ _ _ hs hg hr => ⟨boxed_keeps hs.1 hg hr, boxed_keeps hs.2 hg hr⟩) _)
  case assign =>
    intro l x W K hK
    unfold encCar
    gi_wp2
    exact hK
  case stop =>
    rintro D c pre W _ _ h _
    exact h.elim
  case done =>
    rintro D ys W hD rfl ⟨⟨⟨v, hv, hrow, -⟩, hB⟩, -⟩ hK
    have hc := hv.cell
    gi_wp2
    refine ⟨by simp, .inl ⟨_, _, rfl, run_takeDeferred hK, ?_⟩⟩
    exact ⟨_, results_tmp rfl _ _ _, v, rfl, ownsRow_putObj hrow _ hK rfl, hB.trans (belowK_b (w := w) (Nat.le_refl _) W D _ _ (by simp at hD; omega) hK rfl rfl)⟩
  case body =>
    rintro l pre ⟨c, ho⟩ W ⟨⟨⟨v, hv, hrow, -⟩, hB⟩, hbx0, hbx2⟩ hlt
    have hc0 := hbx0.cell
    have HX := hid (And.intro hbx0 hbx2)
    clear hbx0 hbx2
    have hBI := (h.kept hB).box c ho
    obtain ⟨va, vc, hvs, hwr, -, -⟩ := own_slice (h.box c ho).row
    have HPW := hid (fun w' (hb : Below w.heap.size w w') => (h.kept hb).head)
    have b0 : W.cell? ⟨A.bx c, 0, none⟩ = some (.slice va (P.box c).wait.length vc) := by rw [← hvs]; exact hBI.cells.cell 0 rfl
    have b1 : W.cell? ⟨A.bx c, 1, none⟩ = some (.int .u64 (P.box c).given) := hBI.cells.cell 1 rfl
    have l0 := (ok.box c).len
    have l1 := (ok.box c).le
    have l2 := (ok.box c).hi
    have hw1 : IntKind.u64.wrap ((P.box c).wait.length : Int) = (P.box c).wait.length := by rw [IntKind.wrap_u64]; omega
    have hw2 : IntKind.u64.wrap ((P.box c).given - (P.box c).wait.length) = doneX (P.box c) := by rw [IntKind.wrap_u64]; unfold doneX; omega
    have d0 : 0 ≤ doneX (P.box c) := by unfold doneX; omega
    have d1 : doneX (P.box c) + (P.box c).wait.length = (P.box c).given := by unfold doneX; omega
    have hw3 : IntKind.u64.wrap (doneX (P.box c) + 1) = doneX (P.box c) + 1 := by rw [IntKind.wrap_u64]; omega
    have hmx : Try.prog.follows .mixedOrders = true := by kernel_rfl
    have HB := hid hB
    have HV := hid hv
    have HR := hid hrow
    have HL := hid hlt
    have HWR := hid hwr
    have HBI := hid hBI
    have OK := hid ok
    generalize hd : doneX (P.box c) = d at *
    clear bO bN hB0 cP h hB hv hrow hlt hwr hBI hvs ok
    gi_wp2
    refine wpIn_region_quiet_round (by simp) hmx (by kernel_rfl) ?_
    repeat (gi_big_quiet_step (fail))
    refine wpQuietIn_nil ?_
    intro _ hw'
    obtain ⟨nq, hw''⟩ := hw'
    subst hw''
    gi_wp2
    gi_loopw [30] (fun i wr => ∃ (j : Nat) (v : Value), j ≤ (P.box c).wait.length ∧ i = .int .i64 j ∧ Aside (Boxed wr (w.heap.size + 1) 29 v ∧ wr.ownsRow w.heap.size 50 16 v (pkL P pre ++ (pkBox P c).take j).length (cellsL encPk (pkL P pre ++ (pkBox P c).take j))) ∧ Aside (KeepsOthers W wr ∧ KpB w.heap.size (w.heap.size + 1 + 1) W wr ∧ Below w.heap.size w wr ∧ Boxed wr w.heap.size 24 (.pointer (some ⟨A.pb, 0, none⟩)) ∧ Boxed wr (w.heap.size + 1 + 1) 24 (.pointer (some ⟨A.pb, 0, none⟩)))) (fun i _ => (P.box c).wait.length - (RowKit.intOf i).toNat)
    case atStart =>
      refine ⟨0, v, Nat.zero_le _, rfl, ?_, ⟨Nat.le_refl _, fun _ _ h _ => h⟩, ⟨⟨rfl, rfl, rfl, Nat.le_refl _, fun _ _ => rfl⟩, rfl⟩, HB.out.trans ⟨rfl, rfl, rfl, Nat.le_refl _, fun _ _ => rfl⟩, HX.out.1, HX.out.2⟩
      rw [List.take_zero, List.append_nil]
      exact ⟨HV.out, HR.out⟩
    case round =>
      obtain ⟨j, v1, hj, rfl, HV1, HK1⟩ := hrel
      by_cases hjl : j < (P.box c).wait.length
      · obtain ⟨b', off', rfl, hcell⟩ := (HWR.out.kept HK1.out.2.2.1).thing encMsg_len hjl (by decide)
        have ld := run_loadCellsFrom_list Try.prog wr (Addr.mk b' (off' + j * 12) none) (encMsg (P.box c).wait[j]) 12 rfl (fun i u hi => by
          have hi12 : i < 12 := by
            rcases Nat.lt_or_ge i 12 with h | h
            · exact h
            · rw [List.getElem?_eq_none (by rw [encMsg_len]; exact h)] at hi; cases hi
          have e : (Addr.mk b' (off' + j * 12) none).add i = ⟨b', off' + (j * 12 + i), none⟩ := by
            unfold Addr.add
            split
            · rename_i e; subst e; rfl
            · rw [← Nat.add_assoc]
          rw [e, hcell i hi12, List.getD_eq_getElem?_getD, hi]; rfl)
        obtain ⟨m, hm⟩ : ∃ m, m = (P.box c).wait[j] := ⟨_, rfl⟩
        rw [← hm] at ld
        have HM := hid hm
        clear hm
        unfold encMsg at ld
        clear hcell
        gi_wp2
        obtain ⟨hvB, hrB⟩ := HV1.out
        obtain ⟨hk1, hk2, hk3, hk5, hk6⟩ := HK1.out
        have hk4 := hk5.cell
        have hNN : (pkL P pre ++ List.take j (pkBox P c)).length ≤ 100000 := by
          have h1 := pkL_len OK.out pre
          have h2 := carK_len P P.n.toNat
          have h3 := HL.out
          have h4 := OK.out.n1
          rw [List.length_append, List.length_take]
          omega
        obtain ⟨a1, cc1, rfl, -, -, -⟩ := own_slice hrB
        generalize hN : (pkL P pre ++ List.take j (pkBox P c)).length = N at *
        generalize hX : pkL P pre ++ List.take j (pkBox P c) = Xs at *
        obtain ⟨wy, hwy⟩ : ∃ wy, wy = wr.alloc (.cells #[.int .u8 m.k, .int .u8 m.tc, .int .u64 m.tr, .int .u8 m.ix, .int .u8 m.lc, .int .u16 m.lf, .int .u32 m.lx, .int .i64 m.v, .int .u8 m.st, .int .u32 m.nn, .int .i64 m.amt, .int .i64 m.cd] 44) := ⟨_, rfl⟩
        rw [← hwy]
        have xm : Box wy wr.heap.size (encMsg m).toArray := by rw [hwy]; exact Box.new rfl
        have bwy : Below wr.heap.size wr wy := by rw [hwy]; exact below_alloc _ _
        have o1 : wy.drew.cell? ⟨w.heap.size + 1, 0, none⟩ = some (.slice a1 N cc1) := by
          have := (hvB.alloc (.cells #[.int .u8 m.k, .int .u8 m.tc, .int .u64 m.tr, .int .u8 m.ix, .int .u8 m.lc, .int .u16 m.lf, .int .u32 m.lx, .int .i64 m.v, .int .u8 m.st, .int .u32 m.nn, .int .i64 m.amt, .int .i64 m.cd] 44)).cell
          rw [← hwy] at this
          exact this
        have o2 : wy.drew.cell? ⟨w.heap.size, 0, none⟩ = some (.pointer (some ⟨A.pb, 0, none⟩)) := (bwy.cell (p := ⟨w.heap.size, 0, none⟩) (World.block_lt_of_cell? wr _ hk4)).trans hk4
        have hhd := HPW.out wr hk3
        have o3 : wy.drew.cell? ⟨A.pb, 0, none⟩ = some (.int .u8 P.self) := (hhd.kept bwy).cell 0 rfl
        have o4 : Sem.run Try.prog (loadCellsFrom ⟨wr.heap.size, 0, none⟩ 0 12 #[]) wy.drew = .ok #[.int .u8 m.k, .int .u8 m.tc, .int .u64 m.tr, .int .u8 m.ix, .int .u8 m.lc, .int .u16 m.lf, .int .u32 m.lx, .int .i64 m.v, .int .u8 m.st, .int .u32 m.nn, .int .i64 m.amt, .int .i64 m.cd] wy.drew := box_whole (n := 12) (xm.kept (Below.refl _ _).drew) rfl
        have oB : wy.drew.frozen? ⟨w.heap.size + 1, 0, none⟩ = false := by
          have := (hvB.alloc (.cells #[.int .u8 m.k, .int .u8 m.tc, .int .u64 m.tr, .int .u8 m.ix, .int .u8 m.lc, .int .u16 m.lf, .int .u32 m.lx, .int .i64 m.v, .int .u8 m.st, .int .u32 m.nn, .int .i64 m.amt, .int .i64 m.cd] 44)).frozen
          rw [← hwy] at this
          exact this
        have hsz : w.heap.size + 1 < wr.heap.size := hvB.lt
        have hsy : wr.heap.size < wy.heap.size := xm.lt
        have hjw : IntKind.u64.wrap (j : Int) = j := by rw [IntKind.wrap_u64]; omega
        have hjw2 : IntKind.u64.wrap (d + 1 + (j : Int)) = d + 1 + j := by rw [IntKind.wrap_u64]; omega
        obtain ⟨i0, hi, hz0, hz1, hz2⟩ := info_parts pkrow
        obtain ⟨v', w', hrun, hown', hgrow', -, hat'⟩ := run_append_own_at (P := Try.prog) (wy.drew.alloc (.cells (encPk ⟨P.self, c, d + 1 + j, m⟩).toArray 50)) w.heap.size 29 29 50 i0 _ 16 88 Try.underlying29 hi hz0 hz1 hz2 rfl (by decide) _ _ _
          (show World.ownsRow _ _ _ _ _ _ _ by have := (World.ownsRow.alloc hrB (.cells #[.int .u8 m.k, .int .u8 m.tc, .int .u64 m.tr, .int .u8 m.ix, .int .u8 m.lc, .int .u16 m.lf, .int .u32 m.lx, .int .i64 m.v, .int .u8 m.st, .int .u32 m.nn, .int .i64 m.amt, .int .i64 m.cd] 44)); rw [← hwy] at this; exact World.ownsRow.alloc (World.ownsRow.drew this) _)
          ⟨wy.heap.size, 0, none⟩ 1 1 (encPk ⟨P.self, c, d + 1 + j, m⟩) rfl (fun i u hi => by
            have e : (Addr.mk wy.heap.size 0 none).add i = ⟨wy.heap.size, i, none⟩ := by
              unfold Addr.add
              split
              · rename_i e; subst e; rfl
              · simp
            rw [e, cell_new (w := wy.drew) (b := wy.heap.size) rfl]
            simpa using hi) (encPk_one _) (by unfold maxLen; omega) (by omega) (by show w.heap.size ≤ (wy.drew.alloc _).heap.size; simp; omega)
        obtain ⟨g', cap', rfl⟩ := ownsRow_succ hown'
        have byd : Boxed wy.drew (w.heap.size + 1) 29 (.slice a1 N cc1) := by
          have := hvB.alloc (.cells #[.int .u8 m.k, .int .u8 m.tc, .int .u64 m.tr, .int .u8 m.ix, .int .u8 m.lc, .int .u16 m.lf, .int .u32 m.lx, .int .i64 m.v, .int .u8 m.st, .int .u32 m.nn, .int .i64 m.amt, .int .i64 m.cd] 44)
          rw [← hwy] at this
          exact this
        have hrBy : wy.drew.ownsRow w.heap.size 50 16 (.slice a1 N cc1) N (cellsL encPk Xs) := by
          have := World.ownsRow.alloc hrB (.cells #[.int .u8 m.k, .int .u8 m.tc, .int .u64 m.tr, .int .u8 m.ix, .int .u8 m.lc, .int .u16 m.lf, .int .u32 m.lx, .int .i64 m.v, .int .u8 m.st, .int .u32 m.nn, .int .i64 m.amt, .int .i64 m.cd] 44)
          rw [← hwy] at this
          exact World.ownsRow.drew this
        obtain ⟨hv1, hv2, hr2, hkk, hbb⟩ := byd.appended (n₀ := w.heap.size) (by decide) hrBy (by show w.heap.size ≤ wy.heap.size; omega) (Nat.le_succ _) hown' hgrow'
        have q1 := hv1.cell
        have q2 := hv1.frozen
        have hoth : ∀ B, B ≠ w.heap.size + 1 → Boxed wr B 24 (.pointer (some ⟨A.pb, 0, none⟩)) → Boxed (w'.setCell ⟨w.heap.size + 1, 0, none⟩ (.slice (some ⟨g', 0, none⟩) (N + 1) cap')) B 24 (.pointer (some ⟨A.pb, 0, none⟩)) := fun B hne hB => by
          have y1 : Boxed wy.drew B 24 (.pointer (some ⟨A.pb, 0, none⟩)) := by
            have := hB.alloc (.cells #[.int .u8 m.k, .int .u8 m.tc, .int .u64 m.tr, .int .u8 m.ix, .int .u8 m.lc, .int .u16 m.lf, .int .u32 m.lx, .int .i64 m.v, .int .u8 m.st, .int .u32 m.nn, .int .i64 m.amt, .int .i64 m.cd] 44)
            rw [← hwy] at this
            exact this
          exact ((y1.alloc _).kept hgrow' (y1.not_row (by decide) hrBy)).other hne _
        have hko : KeepsOthers wr wy.drew := by
          have := KeepsOthers.alloc wr (.cells #[.int .u8 m.k, .int .u8 m.tc, .int .u64 m.tr, .int .u8 m.ix, .int .u8 m.lc, .int .u16 m.lf, .int .u32 m.lx, .int .i64 m.v, .int .u8 m.st, .int .u32 m.nn, .int .i64 m.amt, .int .i64 m.cd] 44)
          rw [← hwy] at this
          exact ⟨this.size, this.same⟩
        have hbw : Below w.heap.size wr wy.drew := (bwy.mono (by omega)).trans (Below.refl _ _).drew
        have HALL := hid (And.intro hv2 (And.intro hr2 (And.intro (hko.trans hkk) (And.intro (hbw.trans hbb) (And.intro (hoth _ (by omega) hk5) (hoth _ (by omega) hk6))))))
        unfold encPk encMsg at hrun
        simp only [List.cons_append, List.nil_append] at hrun
        have HHWY := hid hwy
        obtain ⟨W0, hW0⟩ : ∃ W0, W0 = wy.drew := ⟨_, rfl⟩
        have x0 : Box W0 wr.heap.size (encMsg m).toArray := by rw [hW0]; exact xm.kept (Below.refl _ _).drew
        have z0 : W0.heap.size = wy.heap.size := by rw [hW0]; rfl
        obtain ⟨W1, hW1⟩ : ∃ W1, W1 = W0.alloc (.cells #[.int .u8 P.self, .int .u8 (c : Int), .bool false, .int .u64 (d + 1 + j), .int .u8 m.k, .int .u8 m.tc, .int .u64 m.tr, .int .u8 m.ix, .int .u8 m.lc, .int .u16 m.lf, .int .u32 m.lx, .int .i64 m.v, .int .u8 m.st, .int .u32 m.nn, .int .i64 m.amt, .int .i64 m.cd] 50) := ⟨_, rfl⟩
        have b01 : Below W0.heap.size W0 W1 := by rw [hW1]; exact below_alloc _ _
        rw [← hW0] at o1 o2 o3 o4 oB hrun
        rw [← hW1] at hrun
        have lpb : A.pb < W0.heap.size := World.block_lt_of_cell? W0 _ o3
        have p1 := (b01.cell (p := ⟨w.heap.size + 1, 0, none⟩) (by show w.heap.size + 1 < W0.heap.size; omega)).trans o1
        have p2 := (b01.cell (p := ⟨w.heap.size, 0, none⟩) (by show w.heap.size < W0.heap.size; omega)).trans o2
        have p3 := (b01.cell (p := ⟨A.pb, 0, none⟩) lpb).trans o3
        have p4 : Sem.run Try.prog (loadCellsFrom ⟨wr.heap.size, 0, none⟩ 0 12 #[]) W1 = .ok #[.int .u8 m.k, .int .u8 m.tc, .int .u64 m.tr, .int .u8 m.ix, .int .u8 m.lc, .int .u16 m.lf, .int .u32 m.lx, .int .i64 m.v, .int .u8 m.st, .int .u32 m.nn, .int .i64 m.amt, .int .i64 m.cd] W1 := box_whole (n := 12) (x0.kept b01) rfl
        have HW0 := hid hW0
        have HW1 := hid hW1
        obtain ⟨W3, hW3⟩ : ∃ W3, W3 = w'.setCell ⟨w.heap.size + 1, 0, none⟩ (.slice (some ⟨g', 0, none⟩) (N + 1) cap') := ⟨_, rfl⟩
        rw [← hW3] at HALL
        have HW3 := hid hW3
        clear x0 b01 lpb hW0 hW1 hW3
        have HG := hid hgrow'
        have HO := hid hown'
        clear hoth hko hbw hv1 hv2 hr2 hkk hbb byd hrBy hgrow' hown' hat' hi hz0 hz1 hz2 hwy xm bwy hhd ld b0 b1 hvB hrB hk1 hk2 hk3 hk5 hk6 hk4
        refine wpIn_region_ssa (fun k => (#[Value.slice a1 N cc1, .pointer (some ⟨A.pb, 0, none⟩), .pointer (some ⟨A.pb, 0, none⟩), .pointer (some ⟨A.pb, 0, none⟩), .int .u8 P.self, .int .u8 (c : Int), .int .u64 (d + 1), .int .i64 (j : Int), .int .u64 (j : Int), .int .u64 (d + 1 + j), .agg #[.int .u8 m.k, .int .u8 m.tc, .int .u64 m.tr, .int .u8 m.ix, .int .u8 m.lc, .int .u16 m.lf, .int .u32 m.lx, .int .i64 m.v, .int .u8 m.st, .int .u32 m.nn, .int .i64 m.amt, .int .i64 m.cd], .agg #[.int .u8 P.self, .int .u8 (c : Int), .bool false, .int .u64 (d + 1 + j), .int .u8 m.k, .int .u8 m.tc, .int .u64 m.tr, .int .u8 m.ix, .int .u8 m.lc, .int .u16 m.lf, .int .u32 m.lx, .int .i64 m.v, .int .u8 m.st, .int .u32 m.nn, .int .i64 m.amt, .int .i64 m.cd], .slice (some ⟨wy.heap.size, 0, none⟩) 1 1, .slice (some ⟨g', 0, none⟩) (N + 1) cap', undef] : Array Value).getD k undef) (fun k => match k with | 0 => W0 | 1 => W1 | 2 => w' | _ => W3) [12, 13, 14] [[], [], [1], [1, 2], [1, 2, 3], [], [], [], [7], [6, 7, 8], [], [1, 2, 3, 4, 5, 6, 7, 8, 9, 10], [1, 2, 3, 4, 5, 6, 7, 8, 9, 10, 11], [0, 1, 2, 3, 4, 5, 6, 7, 8, 9, 10, 11, 12], [0, 1, 2, 3, 4, 5, 6, 7, 8, 9, 10, 11, 12, 13]] [0, 0, 0, 0, 0, 0, 0, 0, 0, 0, 0, 0, 0, 1, 2] [1, 0, 0, 0, 0, 0, 0, 0, 0, 0, 0, 0, 0, 1, 2] hmx (by kernel_rfl) (by kernel_rfl) (by simp) (by simp) HW0.out ?_ ?_
        · simp only [ssaAct, Act.put, List.setIfInBounds_toArray, List.set_cons_zero, List.set_cons_succ, Nat.zero_add, Nat.reduceAdd]
          refine ⟨?_, ?_, ?_, ?_, ?_, ?_, ?_, ?_, ?_, ?_, ?_, ?_, ?_, ?_, ?_, trivial⟩
          · intro k _ h2 _
            obtain rfl | rfl : k = 0 ∨ k = 1 := by simp at h2; omega
            · go_simp
            · go_simp
          iterate 11
            · intro k _ h2 _
              obtain rfl : k = 0 := by simpa using h2
              go_simp
          · intro k _ h2 _
            obtain rfl : k = 0 := by simpa using h2
            go_simp
            exact ⟨_, ⟨rfl, HW1.out.symm⟩, .inl rfl⟩
          · intro k h1 h2 _
            obtain rfl : k = 1 := by simp at h1 h2; omega
            refine ⟨by go_simp, .value (.slice (some ⟨g', 0, none⟩) (N + 1) cap'), ?_, .inl rfl⟩
            simp [execOp, resolve, invoke, builtin, Act.eval, hrun, Result.andThen]
          · intro k h1 h2 _
            obtain rfl : k = 2 := by simp at h1 h2; omega
            go_simp
            exact ⟨_, ⟨rfl, HW3.out.symm⟩, .inr rfl⟩
        · simp only [ssaAct, Act.put, List.setIfInBounds_toArray, List.set_cons_zero, List.set_cons_succ, Nat.zero_add, Nat.reduceAdd]
          gi_wp2
          go_roundw
          case rel =>
            obtain ⟨r1, r2, r3, r4, r5, r6⟩ := HALL.out
            have e := pkBox_take (P := P) (c := c) hjl
            rw [hd, ← HM.out] at e
            refine ⟨j + 1, _, by omega, by go_num, ⟨r1, ?_⟩, ⟨HK1.out.1.trans r3, ⟨HK1.out.2.1.1.trans r4, r6.trans HX.out.2.symm⟩, HK1.out.2.2.1.trans r4, r5, r6⟩⟩
            rw [e, ← List.append_assoc, hX, cellsL_snoc, List.length_append, hN]
            exact r2
          case measure => simp [RowKit.intOf]; omega
      · obtain rfl : j = (P.box c).wait.length := by omega
        have hfull : (pkBox P c).take (P.box c).wait.length = pkBox P c := List.take_of_length_le (by rw [pkBox_len]; exact Nat.le_refl _)
        rw [hfull] at HV1
        gi_wp2
        exact ⟨HK1.out.1.from _, HK1.out.2.1, ⟨⟨_, HV1.out.1, by rw [pkL_snoc]; exact HV1.out.2, trivial⟩, HK1.out.2.2.1⟩, HK1.out.2.2.2⟩
end Go.Proofs.Ytfnneghddndeiaa
