/- Pc3, Money1, Money2, Money3, Money4. -/
import Derived.Test.YtifapcpcemigdaaGreatM9654bcf
import Derived.Test.YtifapcpcemigdaaGreatRows
import Derived.Test.YtifapcpcemigdaaGreatM642530e
set_option maxRecDepth 100000
set_option linter.unusedVariables false
set_option linter.unusedSimpArgs false
set_option linter.unusedSectionVars false
section
namespace Go.Proofs.YtifapcpcemigdaaGreat
open Go.RowKit Go.Lib Go.Tk Go.Shelf Go.Maps Go.Vc Go.Sx
def AllF : Nat := 75
def All1F : Nat := 118
def PCloneF : Nat := 44
theorem all_c (F : PnF) : CallOK Tryz.prog AllF [.ptr 0 0 0] [((0, 0), .fam F)] [] (.fn (.func All1F) [] [.ptr 1 0 0]) [((1, 0), .box none [.ptr 0 0 0])] := callOK_run 400 [] (by kernel_rfl) (by kernel_rfl)
def clSl : Slots := [(0, .ptr 0 0 0), (3, .ptr 1 1 0), (20, .fn (.func All1F) [] [.ptr 1 3 0])]
def clHd (P : PostV) : SC := .famE [.val (.int .u8 P.self), .val (.int .i64 P.n), .map 1 2] fun b _ vs => boxZ b vs.toArray
def clHp (A : PostA) (P : PostV) (ms : List Nat) : Heap := [((1, 2), .fam (partF P ms)), ((0, 0), .fam (pinF A P)), ((1, 1), .box none [.ptr 1 0 0]), ((1, 0), clHd P), ((1, 3), .box none [.ptr 0 0 0])]
def carS (A : PostA) {P : PostV} (x : Car P) : List SV := [.val (.int .u8 (x.1 : Int)), .val (.pointer (some ⟨A.bx x.1, 0, none⟩))]
def clS1 (A : PostA) {P : PostV} (x : Car P) : Slots := [(4, .val (.int .u8 (x.1 : Int))), (5, .val (.pointer (some ⟨A.bx x.1, 0, none⟩)))] ++ clSl
theorem pin_head {A : PostA} {P : PostV} {t : TypeId} {off : Nat} {u : SV} (hu : Go.Sx.partAt Tryz.prog t [.val (.int .u8 P.self), .val (.int .i64 P.n)] off = some u) : OpG Tryz.prog (isLoad t) loadX [.ptr 0 0 off] [((0, 0), .fam (pinF A P))] [] u [] := by
  intro o ho
  unfold isLoad at ho
  split at ho <;> try (cases ho; done)
  rename_i t' x hop
  have e1 := Nat.eq_of_beq_eq_true ho
  subst e1
  have hx' : loadX o = [x] := by unfold loadX; rw [hop]
  rw [hx']
  refine ⟨fun z hz => by rw [hop]; simp [Op.operands]; simpa using hz, fun ε ρ R w hx hM => ?_⟩
  simp only [List.map_cons, List.map_nil, SV.dens, SV.den, List.cons.injEq, and_true] at hx
  have hM : Mem (pinC A P (ε 0 0).1 :: R) w := hM
  obtain ⟨e, base, hB⟩ := hM.of 0 rfl (φ := A.pb = (ε 0 0).1 ∧ ∃ base, PostIn w base A P) fun S hS => ⟨hS.1, hS.2.1.choose, hS.2.1.choose_spec.2⟩
  have := partAt_load (P := Tryz.prog) (w := w) (ρ := ρ) (o := o) (x := x) (B := (ε 0 0).1) (O := 0) (ε := ε) hu (fun i u hi => by
    rw [Nat.zero_add, ← e]
    refine hB.head.cell i ?_
    rcases i with _ | _ | i
    · cases hi; rfl
    · cases hi; rfl
    · cases hi) hop (hx.trans (by simp))
  exact res_ok this ⟨ε 1, by rw [eset_self], by rw [eset_self]; exact hM⟩
theorem carK_map (P : PostV) : ∀ k, (carK P k).map (·.1) = (List.range k).filter fun (c : Nat) => P.other (c : Int)
  | 0 => rfl
  | k + 1 => by
    rw [List.range_succ, List.filter_append, ← carK_map P k]
    cases h : P.other (k : Int) with
    | true => rw [carK_yes h, List.map_append]; simp [h]
    | false => rw [carK_no h]; simp [h]
theorem carK_cs (P : PostV) : (carK P P.n.toNat).map (·.1) = P.cs := carK_map P _
theorem car_new {P : PostV} {pre : List (Car P)} {c : Nat} {hc : P.other c = true} (h : pre ++ [⟨c, hc⟩] <+: carK P P.n.toNat) : c ∉ pre.map (·.1) := fun hm => by
  have hn := cs_nodup P
  rw [← carK_cs] at hn
  obtain ⟨t, ht⟩ := h
  rw [← ht, List.map_append, List.map_append] at hn
  have := (List.nodup_append.1 (List.nodup_append.1 hn).1).2.2 c hm c (by simp)
  exact this rfl
theorem car_lt {P : PostV} (ok : PostOk P) {c : Nat} (h : P.other c = true) : c < 8 := by
  have := ok.n1
  simp only [PostV.other, Bool.and_eq_true, decide_eq_true_eq] at h
  omega
theorem clone_p (P : PostV) (ok : PostOk P) : CallOK Tryz.prog PCloneF [.ptr 0 0 0] [((0, 0), .fam (postF P))] [] (.ptr 1 0 0) [((1, 0), .fam (postF P))] := by
  refine callOK_introM 3 (by kernel_rfl) fun eb R => ?_
  have b1 := box_g (P := Tryz.prog) (t := 123) [.val (.int .u8 P.self), .val (.int .i64 P.n), .map 0 2] (by kernel_rfl) (fun ε => by simp [SV.den, SV.dens, Value.cells])
  refine go_openM (X := { A : PostA // ∀ c : Nat, P.other c = true → ∃ a cp, A.vs c = .slice a (P.box c).wait.length cp ∧ (a = none → cp = 0) }) (fun x => [((0, 0), .fam (pinF x.1 P))]) (fun ε w hM => pin_open (v := (ε 0 0).2) hM) (fun _ => by kernel_rfl) ?_
  rintro ⟨A, hA⟩
  have c1 := all_c (pinF A P)
  have l1 := pin_head (A := A) (P := P) (t := 5) (off := 0) (u := .val (.int .u8 P.self)) (by kernel_rfl)
  have l2 := pin_head (A := A) (P := P) (t := 3) (off := 1) (u := .val (.int .i64 P.n)) (by kernel_rfl)
  refine leaf_cutM (rfK Tryz.prog PCloneF) clSl [((0, 0), .fam (pinF A P)), ((1, 1), .box none [.ptr 1 0 0]), ((1, 0), clHd P), ((1, 2), .obj [] 0), ((1, 3), .box none [.ptr 0 0 0])] calNone 400 [hG 3 3 l1, hG 3 7 l2, hG 3 10 b1, hC 4 1 c1] calNone_ok (by kernel_rfl) ?_
  refine go_openM (X := Unit) (fun _ => clHp A P []) (fun ε w hM => ⟨(), by
    have h1 := hM.front 3 rfl
    have h2 := h1.weaken (c' := partF P [] (ε 1 2).1 (ε 1 2).2) fun S hS => by
      have hS : (objM (ε 1 2).1 []).at_ S w := hS
      obtain ⟨hb, es, clock, h1, h2, -, h4, h5⟩ := hS
      exact ⟨(fun _ => 0, fun _ => undef), ⟨hb, ⟨es, clock, h1, by simpa [bxMap] using h2, by simp [bxMap], by simp [bxMap], h4, h5⟩, (fun c hc => by cases hc), (fun c hc => by cases hc), (fun c hc => by cases hc)⟩⟩
    exact h2⟩) (fun _ => by kernel_rfl) fun _ => ?_
  refine go_range (n := 3) (gf := All1F) (bs := [.ptr 1 3 0]) (by kernel_rfl) (enters_of Tryz.func118 (by kernel_rfl) rfl) (fun x : Car P => carS A x) (carK P P.n.toNat) (fun ε W => (∃ base, PostIn W base A P) ∧ W.cell? ⟨(ε 1 3).1, 0, none⟩ = some (.pointer (some ⟨A.pb, 0, none⟩)))
    (fun ε => all1_J 2 A P ok (ε 1 3).1) (fun x => by kernel_rfl) (fun x => by kernel_rfl) (of_decide_eq_true (by kernel_rfl)) (of_decide_eq_true (by kernel_rfl)) (fun pre => clHp A P (pre.map (·.1))) (fun _ => [((0, 0), .fam fun _ _ => pureC False)]) ?_ (fun pre => by kernel_rfl) (fun pre => by kernel_rfl) (fun _ => by kernel_rfl) (fun _ => by kernel_rfl) (by kernel_rfl) (fun x => clS1 A x) ?_ ?_ ?_ ?_
  · intro ε pre X W hM
    have h1 : Mem (hden ε (clHp A P (pre.map (·.1))) ++ (X ++ R)) W := mem_perm (by
      rw [← List.append_assoc, ← List.append_assoc]
      exact List.Perm.append_right R List.perm_append_comm) hM
    have h2 : Mem (partF P (pre.map (·.1)) (ε 1 2).1 (ε 1 2).2 :: pinC A P (ε 0 0).1 :: boxE none (ε 1 1).1 #[.pointer (some ⟨(ε 1 0).1, 0, none⟩)] :: boxZ (ε 1 0).1 #[.int .u8 P.self, .int .i64 P.n, .map (some (ε 1 2).1)] :: boxE none (ε 1 3).1 #[.pointer (some ⟨(ε 0 0).1, 0, none⟩)] :: (X ++ R)) W := h1
    obtain ⟨e, base, hB⟩ := h2.of 1 rfl (φ := A.pb = (ε 0 0).1 ∧ ∃ base, PostIn W base A P) fun S hS => ⟨hS.1, hS.2.1.choose, hS.2.1.choose_spec.2⟩
    refine ⟨⟨base, hB⟩, ?_⟩
    rw [e]
    exact (h2.box 4 rfl).cell 0 rfl
  · intro ε l pre x X hpre
    exact as_run (clS1 A x) (clHp A P (pre.map (·.1))) 40 [] calNone_ok (by kernel_rfl) fun a w ha hm => ⟨rfl, ha, hm⟩
  · intro ε l pre x X hpre
    obtain ⟨c, hc⟩ := x
    obtain ⟨wa, wc, hv, hn⟩ := hA c hc
    have hcn : c ∉ pre.map (·.1) := car_new hpre
    have hc8 : c ≤ 255 := by have := car_lt ok hc; omega
    have c3 := cloneM_w (pinF A P) (j := 0) (pin_row hc hv) hn (by have := (ok.box c).len; omega)
    have g1 := upd_boxZ (P := P) hcn hc8
    have b2 := box_g (P := Tryz.prog) (t := 119) [.raw 0 2, .val (.int .u64 (P.box c).given), .val (.int .u64 (P.box c).last)] (by kernel_rfl) (fun ε => by simp [SV.den, SV.dens, Value.cells])
    have l1 := load_openG (P := Tryz.prog) (t := 117) (k := 0) (j := 0) (cs := [.val (.slice wa (P.box c).wait.length wc), .val (.int .u64 (P.box c).given), .val (.int .u64 (P.box c).last)]) (u := .val (.slice wa (P.box c).wait.length wc)) 0 (by kernel_rfl) (pin_box (P := P) hc) (fun ε i v hi => by
      rw [hv, Nat.zero_add]
      rcases i with _ | _ | _ | i <;> cases hi <;> rfl) (by show 0 < 3; omega)
    have l2 := load_openG (P := Tryz.prog) (t := 33) (k := 0) (j := 0) (cs := [.val (.slice wa (P.box c).wait.length wc), .val (.int .u64 (P.box c).given), .val (.int .u64 (P.box c).last)]) (u := .val (.int .u64 (P.box c).given)) 1 (by kernel_rfl) (pin_box (P := P) hc) (fun ε i v hi => by
      rw [hv, Nat.zero_add]
      rcases i with _ | _ | _ | i <;> cases hi <;> rfl) (by show 0 < 3; omega)
    have l3 := load_openG (P := Tryz.prog) (t := 33) (k := 0) (j := 0) (cs := [.val (.slice wa (P.box c).wait.length wc), .val (.int .u64 (P.box c).given), .val (.int .u64 (P.box c).last)]) (u := .val (.int .u64 (P.box c).last)) 2 (by kernel_rfl) (pin_box (P := P) hc) (fun ε i v hi => by
      rw [hv, Nat.zero_add]
      rcases i with _ | _ | _ | i <;> cases hi <;> rfl) (by show 0 < 3; omega)
    have l0 := load_Z (P := Tryz.prog) (t := 121) (off := 2) (cs := [.val (.int .u8 P.self), .val (.int .i64 P.n), .map 0 2]) (u := .map 0 2) (by kernel_rfl)
    have hnext : (pre ++ [(⟨c, hc⟩ : Car P)]).map (·.1) = pre.map (·.1) ++ [c] := by rw [List.map_append]; rfl
    show JdR Tryz.prog (some l) (3 - 1 - 1) [] _ 2 ε (X ++ R) (rfPost X (hden ε (clHp A P ((pre ++ [(⟨c, hc⟩ : Car P)]).map (·.1))) ++ R) _) .nrm _ _
    rw [hnext]
    refine id_run (clHp A P (pre.map (·.1) ++ [c])) .nrm 60 [hG 7 3 l0, hG 7 8 l1, hC 7 9 c3, hG 7 13 l2, hG 7 17 l3, hG 7 19 b2, hG 7 20 g1] calNone_ok (by kernel_rfl) fun a w hd hm => ?_
    exact mem_perm (by
      rw [← List.append_assoc, ← List.append_assoc]
      exact List.Perm.append_right R List.perm_append_comm) hm
  · intro ε D h0
    refine jd_open [((0, 0), .fam (postF P)), ((1, 0), .fam (postF P)), ((1, 1), .box none [.ptr 1 0 0])] (fun ε w hM => ?_) (by kernel_rfl) (by kernel_rfl) ?_
    · rw [carK_cs] at hM
      have h1 : Mem (partF P P.cs (ε 1 2).1 (ε 1 2).2 :: pinF A P (ε 0 0).1 (ε 0 0).2 :: boxE none (ε 1 1).1 #[.pointer (some ⟨(ε 1 0).1, 0, none⟩)] :: boxZ (ε 1 0).1 #[.int .u8 P.self, .int .i64 P.n, .map (some (ε 1 2).1)] :: boxE none (ε 1 3).1 #[.pointer (some ⟨(ε 0 0).1, 0, none⟩)] :: (objC D (.deferred (some [])) :: R)) w := hM
      have h2 := part_post ok (v := (ε 1 2).2) (h1.front 3 rfl)
      have h3 : Mem (postF P (ε 1 0).1 (ε 1 0).2 :: pinF A P (ε 0 0).1 (ε 0 0).2 :: boxE none (ε 1 1).1 #[.pointer (some ⟨(ε 1 0).1, 0, none⟩)] :: boxE none (ε 1 3).1 #[.pointer (some ⟨(ε 0 0).1, 0, none⟩)] :: (objC D (.deferred (some [])) :: R)) w := h2
      have h4 := pin_shut (h3.front 1 rfl)
      have h5 : Mem (boxE none (ε 1 3).1 #[.pointer (some ⟨(ε 0 0).1, 0, none⟩)] :: postF P (ε 0 0).1 (ε 0 0).2 :: postF P (ε 1 0).1 (ε 1 0).2 :: boxE none (ε 1 1).1 #[.pointer (some ⟨(ε 1 0).1, 0, none⟩)] :: (objC D (.deferred (some [])) :: R)) w := h4.front 3 rfl
      exact h5.tail
    · exact leaf_endM h0 calNone 60 [] calNone_ok (by kernel_rfl)
  · intro ε D c h0 ε' a w hd hr
    have h1 : Mem (pureC False :: (objC D (.deferred (some [])) :: R)) w := hr.mem
    exact (h1.of 0 rfl (φ := False) fun S hS => hS).elim
end Go.Proofs.YtifapcpcemigdaaGreat
end
section
namespace Go.Proofs.YtifapcpcemigdaaGreat
open Go.RowKit Go.Lib Go.Tk
def mayI (x : Int) : Bool := decide (-1125899906842624 ≤ x) && decide (x ≤ 1125899906842624)
theorem all_take_succ {p : Int → Bool} {xs : List Int} {k : Nat} (h : k < xs.length) : (xs.take (k + 1)).all p = ((xs.take k).all p && p (xs.getD k 0)) := by
  rw [List.take_succ_eq_append_getElem h, List.all_append]; simp [List.getD_eq_getElem?_getD, h]
set_option maxHeartbeats 400000 in
theorem may_any (a : Option Addr) (cap : Nat) (xs : List Int) (w : World) (hr : Row w a (xs.map (.int .i64))) (hm : xs.length ≤ 9223372036854775807) :
    Calls Tryz.prog 74 #[.slice a xs.length cap] w fun e w' => e = .returned (.bool (xs.all mayI)) ∧ w = w' := by
  have Hr := hid hr
  clear hr
  go_enter Tryz.func74, Tryz.ntmps74
  go_wp2
  go_loop [7] (fun i => ∃ k : Nat, k ≤ xs.length ∧ i = .int .i64 k ∧ Hid ((xs.take k).all mayI = true)) (fun i => xs.length - (RowKit.intOf i).toNat)
  case atStart => exact ⟨0, Nat.zero_le _, rfl, hid (by simp)⟩
  case round =>
    obtain ⟨k, hk, rfl, hall⟩ := hrel
    by_cases hlt : k < xs.length
    · obtain ⟨b, off, rfl, hc⟩ := Hr.out.int k hlt
      have HT := hid (all_take_succ (p := mayI) hlt)
      generalize hx : xs.getD k 0 = x at *
      have HX := hid hx
      clear hx
      go_wp2
      all_goals first
        | (go_ret
           have h2 : xs.all mayI = false := by
             rw [← Bool.not_eq_true]; intro h
             rw [List.all_eq_true] at h
             have := h x (by rw [← HX.out, List.getD_eq_getElem?_getD, List.getElem?_eq_getElem hlt]; simp)
             simp [mayI] at this; omega
           exact ⟨ret_bool h2.symm, rfl⟩)
        | (go_round
           case rel => exact ⟨k + 1, by omega, by go_num, hid (by rw [HT.out, hall.out]; simp [mayI]; omega)⟩
           case measure => simp [RowKit.intOf]; omega)
    · obtain rfl : k = xs.length := by omega
      go_wp2
      go_ret
      exact ⟨ret_bool (by rw [← hall.out, List.take_length]), rfl⟩
theorem mayI_of {x : Int} (h : mayI x = true) : -1125899906842624 ≤ x ∧ x ≤ 1125899906842624 := by simpa [mayI] using h
def valI (x : Int) : Int := if mayI x then x else 0
def errI (x : Int) : Int := if mayI x then 0 else 7
def addI (a b : Int) : Int × Int := if mayI a && mayI b && mayI (a + b) then (a + b, 0) else (0, 7)
def subI (a b : Int) : Int × Int := if mayI a && mayI b && mayI (a - b) then (a - b, 0) else (0, 7)
set_option maxHeartbeats 400000 in
theorem told_no (x : Int) (w : World) :
    Calls Tryz.prog 73 #[.int .i64 x, .bool false] w fun e w' => e = .returned (.tuple #[.int .i64 0, .int .i64 7]) ∧ w = w' := by
  go_enter Tryz.func73, Tryz.ntmps73
  go_wp2
  go_ret2
  exact ⟨rfl, rfl⟩
set_option maxHeartbeats 400000 in
theorem told_yes (x : Int) (w : World) :
    Calls Tryz.prog 73 #[.int .i64 x, .bool true] w fun e w' => e = .returned (.tuple #[.int .i64 (valI x), .int .i64 (errI x)]) ∧ Below w.heap.size w w' := by
  have hb : Below w.heap.size w (w.alloc (.cells #[.int .i64 x] 2)) := (Below.refl _ _).alloc (Nat.le_refl _) _
  cases hx : mayI x
  all_goals
    go_enter Tryz.func73, Tryz.ntmps73
    go_wp2_with (go_at_call 74; refine (may_any _ _ [x] _ row_lit (by simp)).mono ?_; rintro e w' ⟨rfl, rfl⟩)
    go_ret2
    exact ⟨ret_i2 (by simp [valI, errI, hx]), hb⟩
set_option maxHeartbeats 400000 in
theorem check_any (x : Int) (w : World) :
    Calls Tryz.prog 141 #[.int .i64 x] w fun e w' => e = .returned (.int .i64 (errI x)) ∧ Below w.heap.size w w' := by
  go_enter Tryz.func141, Tryz.ntmps141
  go_wp2_with (go_at_call 73; refine (told_yes _ _).mono ?_; rintro e w' ⟨rfl, hb⟩)
  go_ret
  exact ⟨rfl, hb⟩
set_option maxHeartbeats 400000 in
theorem add_any (a b : Int) (w : World) :
    Calls Tryz.prog 72 #[.int .i64 a, .int .i64 b] w fun e w' => e = .returned (.tuple #[.int .i64 (addI a b).1, .int .i64 (addI a b).2]) ∧ Below w.heap.size w w' := by
  have hb : Below w.heap.size w (w.alloc (.cells #[.int .i64 a, .int .i64 b] 2)) := (Below.refl _ _).alloc (Nat.le_refl _) _
  cases hx : mayI a && mayI b
  · have hh := hid hx
    clear hx
    go_enter Tryz.func72, Tryz.ntmps72
    go_wp2_with (first | (go_at_call 74; refine (may_any _ _ [a, b] _ row_lit (by simp)).mono ?_; rw [show [a, b].all mayI = false by simpa using hh.out]; rintro e w' ⟨rfl, rfl⟩) | (go_at_call 73; refine (told_no _ _).mono ?_; rintro e w' ⟨rfl, rfl⟩))
    go_ret2
    exact ⟨ret_i2 (by simp [addI, hh.out]), hb⟩
  · have hh := hid hx
    rw [Bool.and_eq_true] at hx
    obtain ⟨h1, h2⟩ := mayI_of hx.1
    obtain ⟨h3, h4⟩ := mayI_of hx.2
    clear hx
    go_enter Tryz.func72, Tryz.ntmps72
    go_wp2_with (first | (go_at_call 74; refine (may_any _ _ [a, b] _ row_lit (by simp)).mono ?_; rw [show [a, b].all mayI = true by simpa using hh.out]; rintro e w' ⟨rfl, rfl⟩) | (go_at_call 73; refine (told_yes _ _).mono ?_; rintro e w' ⟨rfl, hb1⟩))
    go_ret2
    exact ⟨ret_i2 (by simp only [addI, valI, errI, hh.out, Bool.true_and]; split <;> rfl), hb.trans (hb1.mono (by simp))⟩
set_option maxHeartbeats 400000 in
theorem sub_any (a b : Int) (w : World) :
    Calls Tryz.prog 42 #[.int .i64 a, .int .i64 b] w fun e w' => e = .returned (.tuple #[.int .i64 (subI a b).1, .int .i64 (subI a b).2]) ∧ Below w.heap.size w w' := by
  have hb : Below w.heap.size w (w.alloc (.cells #[.int .i64 a, .int .i64 b] 2)) := (Below.refl _ _).alloc (Nat.le_refl _) _
  cases hx : mayI a && mayI b
  · have hh := hid hx
    clear hx
    go_enter Tryz.func42, Tryz.ntmps42
    go_wp2_with (first | (go_at_call 74; refine (may_any _ _ [a, b] _ row_lit (by simp)).mono ?_; rw [show [a, b].all mayI = false by simpa using hh.out]; rintro e w' ⟨rfl, rfl⟩) | (go_at_call 73; refine (told_no _ _).mono ?_; rintro e w' ⟨rfl, rfl⟩))
    go_ret2
    exact ⟨ret_i2 (by simp [subI, hh.out]), hb⟩
  · have hh := hid hx
    rw [Bool.and_eq_true] at hx
    obtain ⟨h1, h2⟩ := mayI_of hx.1
    obtain ⟨h3, h4⟩ := mayI_of hx.2
    clear hx
    go_enter Tryz.func42, Tryz.ntmps42
    go_wp2_with (first | (go_at_call 74; refine (may_any _ _ [a, b] _ row_lit (by simp)).mono ?_; rw [show [a, b].all mayI = true by simpa using hh.out]; rintro e w' ⟨rfl, rfl⟩) | (go_at_call 73; refine (told_yes _ _).mono ?_; rintro e w' ⟨rfl, hb1⟩))
    go_ret2
    exact ⟨ret_i2 (by simp only [subI, valI, errI, hh.out, Bool.true_and]; split <;> rfl), hb.trans (hb1.mono (by simp))⟩
def sumFrom : Int → List Int → Int × Int
  | s, [] => (s, 0)
  | s, x :: r => if (addI s x).2 = 0 then sumFrom (addI s x).1 r else (0, 7)
theorem addI_cases (s x : Int) : ((addI s x).2 = 0 ∧ mayI s = true ∧ mayI x = true ∧ mayI (s + x) = true ∧ (addI s x).1 = s + x) ∨ ((addI s x).2 = 7 ∧ (addI s x).1 = 0 ∧ (mayI s && mayI x && mayI (s + x)) = false) := by
  unfold addI; split
  · rename_i h; simp at h; simp [h]
  · rename_i h; simp only [Bool.not_eq_true] at h; exact .inr ⟨rfl, rfl, h⟩
theorem sum_step {s x : Int} {k : Nat} {xs : List Int} (hlt : k < xs.length) (hx : xs.getD k 0 = x) (hs : sumFrom 0 xs = sumFrom s (xs.drop k)) (h0 : (addI s x).2 = 0) :
    sumFrom 0 xs = sumFrom (addI s x).1 (xs.drop (k + 1)) := by
  rw [hs, drop_step hlt, hx, sumFrom, if_pos h0]
theorem sum_stop {s x : Int} {k : Nat} {xs : List Int} (hlt : k < xs.length) (hx : xs.getD k 0 = x) (hs : sumFrom 0 xs = sumFrom s (xs.drop k)) (h0 : (addI s x).2 ≠ 0) :
    sumFrom 0 xs = (0, 7) := by
  rw [hs, drop_step hlt, hx, sumFrom, if_neg h0]
set_option maxHeartbeats 400000 in
theorem sum_any (a : Option Addr) (cap : Nat) (xs : List Int) (w : World) (hr : Row w a (xs.map (.int .i64))) (hm : xs.length ≤ 9223372036854775807) :
    Calls Tryz.prog 41 #[.slice a xs.length cap] w fun e w' => e = .returned (.tuple #[.int .i64 (sumFrom 0 xs).1, .int .i64 (sumFrom 0 xs).2]) ∧ Below w.heap.size w w' := by
  have Hr := hid hr
  clear hr
  go_enter Tryz.func41, Tryz.ntmps41
  go_wp2
  go_loopw [4, 11] (fun s i wr => ∃ (k : Nat) (x : Int), k ≤ xs.length ∧ i = .int .i64 k ∧ s = .int .i64 x ∧ Hid (sumFrom 0 xs = sumFrom x (xs.drop k)) ∧ Below w.heap.size w wr) (fun _ i _ => xs.length - (RowKit.intOf i).toNat)
  case atStart => exact ⟨0, 0, Nat.zero_le _, rfl, rfl, hid rfl, Below.refl _ _⟩
  case round =>
    obtain ⟨k, s, hk, rfl, rfl, hs, hbel⟩ := hrel
    by_cases hlt : k < xs.length
    · obtain ⟨b, off, rfl, hc⟩ := (Hr.out.kept hbel).int k hlt
      generalize hx : xs.getD k 0 = x at *
      have HX := hid hx
      clear hx
      rcases addI_cases s x with ⟨h0, -, -, -, h1⟩ | ⟨h0, h1, -⟩
      · have hne : ((addI s x).2 != 0) = false := by simp [h0]
        have H0 := hid h0
        clear h0 h1
        go_wp2_with (go_at_call 72; refine (add_any _ _ _).mono ?_; rintro e w' ⟨rfl, hb1⟩)
        go_roundw
        case rel => exact ⟨k + 1, _, by omega, by go_num, rfl, hid (sum_step hlt HX.out hs.out H0.out), hbel.trans (hb1.mono hbel.size)⟩
        case measure => simp [RowKit.intOf]; omega
      · have hne : ((addI s x).2 != 0) = true := by simp [h0]
        have H0 := hid h0
        clear h0 h1
        go_wp2_with (go_at_call 72; refine (add_any _ _ _).mono ?_; rintro e w' ⟨rfl, hb1⟩)
        go_ret2
        exact ⟨ret_i2 (by rw [sum_stop hlt HX.out hs.out (by rw [H0.out]; decide), H0.out]), hbel.trans (hb1.mono hbel.size)⟩
    · obtain rfl : k = xs.length := by omega
      go_wp2
      go_ret2
      exact ⟨ret_i2 (by rw [hs.out, List.drop_length]; rfl), hbel⟩
end Go.Proofs.YtifapcpcemigdaaGreat
end
section
namespace Go.Proofs.YtifapcpcemigdaaGreat
open Go.RowKit Go.Lib Go.Tk
end Go.Proofs.YtifapcpcemigdaaGreat
end
section
namespace Go.Proofs.YtifapcpcemigdaaGreat
open Go.RowKit Go.Lib Go.Tk
end Go.Proofs.YtifapcpcemigdaaGreat
end
section
namespace Go.Proofs.YtifapcpcemigdaaGreat
open Go.RowKit Go.Lib Go.Tk
theorem wraps_i64 (n : Int) (h₀ : 0 ≤ n) (h₁ : n < 2 ^ 62) : IntKind.i64.wrap n = n := by rw [IntKind.wrap_i64]; omega
theorem and26 (x : Int) (h0 : 0 ≤ x) (h1 : x < 4611686018427387904) : bits .and .i64 x 67108863 = x % 67108864 :=
  bits_mask .i64 62 (by decide) wraps_i64 26 (by decide) x h0 h1
theorem and13 (x : Int) (h0 : 0 ≤ x) (h1 : x < 4611686018427387904) : bits .and .i64 x 8191 = x % 8192 :=
  bits_mask .i64 62 (by decide) wraps_i64 13 (by decide) x h0 h1
theorem or13 (x y : Int) (h0 : 0 ≤ x) (hx : x % 8192 = 0) (h1 : x < 4611686018427387904) (hy0 : 0 ≤ y) (hy : y < 8192) : bits .or .i64 x y = x + y :=
  bits_join .i64 62 (by decide) wraps_i64 13 x y h0 (by omega) h1 hy0 (by omega) (by omega)
theorem idx2_0 (x0 x1 : Value) (w : World) : (Instr.index 282 (.agg #[x0, x1]) (.int .i64 0)).run Tryz.prog w = .ok x0 w := by kernel_rfl
theorem idx2_1 (x0 x1 : Value) (w : World) : (Instr.index 282 (.agg #[x0, x1]) (.int .i64 1)).run Tryz.prog w = .ok x1 w := by kernel_rfl
theorem prod_bd {x y X Y : Int} (h0 : 0 ≤ x) (h1 : x ≤ X) (h2 : 0 ≤ y) (h3 : y ≤ Y) : 0 ≤ x * y ∧ x * y ≤ X * Y :=
  ⟨Int.mul_nonneg h0 h2, Int.mul_le_mul h1 h3 h2 (by omega)⟩
def Words (a n p0 p1 p2 p3 : Int) : Prop :=
  (0 ≤ p0 ∧ p0 < 67108864) ∧ (0 ≤ p1 ∧ p1 < 67108864) ∧ (0 ≤ p2 ∧ p2 < 67108864) ∧ (0 ≤ p3 ∧ p3 < 67108864) ∧
  p0 + p1 * 67108864 + p2 * 4503599627370496 + p3 * 302231454903657293676544 = a * n
def HalvesPost (a n : Int) (w : World) (e : Ending) (w' : World) : Prop :=
  ∃ p0 p1 p2 p3 : Int, e = .returned (.agg #[.int .i64 p0, .int .i64 p1, .int .i64 p2, .int .i64 p3]) ∧ Words a n p0 p1 p2 p3 ∧ Below w.heap.size w w'
theorem words_of {a n x0 x1 y0 y1 s0 s1 s2 : Int} (hA : (x0 = a % 67108864 ∧ x1 = a / 67108864) ∧ y0 = n % 67108864 ∧ y1 = n / 67108864)
    (hS : s0 = x0 * y0 ∧ s1 = x0 * y1 + x1 * y0 ∧ s2 = x1 * y1) (g0 : 0 ≤ s0 ∧ s0 ≤ 4503599627370496) (g1 : 0 ≤ s1 ∧ s1 ≤ 4503599627370496) (g2 : 0 ≤ s2 ∧ s2 ≤ 274877906944) :
    Words a n (s0 % 67108864) ((s1 + s0 / 67108864) % 67108864) ((s2 + (s1 + s0 / 67108864) / 67108864) % 67108864) ((s2 + (s1 + s0 / 67108864) / 67108864) / 67108864) := by
  obtain ⟨⟨h1, h2⟩, h3, h4⟩ := hA
  obtain ⟨k0, k1, k2⟩ := hS
  refine ⟨by omega, by omega, by omega, by omega, ?_⟩
  have ea : a = x1 * 67108864 + x0 := by omega
  have en : n = y1 * 67108864 + y0 := by omega
  have e : a * n = s2 * 4503599627370496 + s1 * 67108864 + s0 := by
    rw [ea, en, k0, k1, k2]
    simp only [Int.add_mul, Int.mul_add]
    have t1 : x1 * 67108864 * (y1 * 67108864) = x1 * y1 * 4503599627370496 := by
      rw [Int.mul_assoc, Int.mul_left_comm 67108864, ← Int.mul_assoc, ← Int.mul_assoc, Int.mul_assoc _ _ 67108864]; rfl
    have t2 : x1 * 67108864 * y0 = x1 * y0 * 67108864 := by rw [Int.mul_right_comm]
    have t3 : x0 * (y1 * 67108864) = x0 * y1 * 67108864 := by rw [Int.mul_assoc]
    rw [t1, t2, t3]; omega
  rw [e]; omega
set_option maxHeartbeats 1000000 in
theorem halves_any (a n : Int) (w : World) (a0 : 0 ≤ a) (a1 : a ≤ 1125899906842624) (n0 : 0 ≤ n) (n1 : n ≤ 1099511627776) :
    Calls Tryz.prog 193 #[.int .i64 a, .int .i64 n] w (HalvesPost a n w) := by
  have e1 := and26 a a0 (by omega)
  have e2 := and26 n n0 (by omega)
  obtain ⟨x0, hx0⟩ : ∃ x, x = a % 67108864 := ⟨_, rfl⟩
  obtain ⟨x1, hx1⟩ : ∃ x, x = a / 67108864 := ⟨_, rfl⟩
  obtain ⟨y0, hy0⟩ : ∃ x, x = n % 67108864 := ⟨_, rfl⟩
  obtain ⟨y1, hy1⟩ : ∃ x, x = n / 67108864 := ⟨_, rfl⟩
  rw [← hx0] at e1
  rw [← hy0] at e2
  have e3 := hx1.symm
  have e4 := hy1.symm
  obtain ⟨b1, b2⟩ := prod_bd (x := x0) (X := 67108863) (y := y0) (Y := 67108863) (by omega) (by omega) (by omega) (by omega)
  obtain ⟨b3, b4⟩ := prod_bd (x := x0) (X := 67108863) (y := y1) (Y := 16384) (by omega) (by omega) (by omega) (by omega)
  obtain ⟨b5, b6⟩ := prod_bd (x := x1) (X := 16777216) (y := y0) (Y := 67108863) (by omega) (by omega) (by omega) (by omega)
  obtain ⟨b7, b8⟩ := prod_bd (x := x1) (X := 16777216) (y := y1) (Y := 16384) (by omega) (by omega) (by omega) (by omega)
  have HA := hid (And.intro (And.intro hx0 hx1) (And.intro hy0 hy1))
  clear hx0 hx1 hy0 hy1
  have i0 := idx2_0
  have i1 := idx2_1
  go_enter Tryz.func193, Tryz.ntmps193
  go_wp2
  iterate 10 ((first | (refine wp_loop_rounds 4 ?_; rw [rounds_succ]) | rw [rounds_succ]); go_wp2)
  obtain ⟨s0, hs0⟩ : ∃ x, x = x0 * y0 := ⟨_, rfl⟩
  obtain ⟨s1, hs1⟩ : ∃ x, x = x0 * y1 + x1 * y0 := ⟨_, rfl⟩
  obtain ⟨s2, hs2⟩ : ∃ x, x = x1 * y1 := ⟨_, rfl⟩
  rw [← hs0, ← hs1, ← hs2]
  have g0 : 0 ≤ s0 ∧ s0 ≤ 4503599627370496 := by omega
  have g1 : 0 ≤ s1 ∧ s1 ≤ 4503599627370496 := by omega
  have g2 : 0 ≤ s2 ∧ s2 ≤ 274877906944 := by omega
  have HS := hid (And.intro hs0 (And.intro hs1 hs2))
  clear hs0 hs1 hs2 b1 b2 b3 b4 b5 b6 b7 b8 e1 e2 e3 e4
  have m0 := and26 s0 (by omega) (by omega)
  have m1 := and26 (s1 + s0 / 67108864) (by omega) (by omega)
  have m2 := and26 (s2 + (s1 + s0 / 67108864) / 67108864) (by omega) (by omega)
  go_region
  go_wp2
  rw [rounds_succ]
  go_wp2
  go_region
  go_wp2
  rw [rounds_succ]
  go_wp2
  go_region
  go_wp2
  rw [rounds_succ]
  go_wp2
  exact bodyPost_ret (v := .agg #[.int .i64 (s0 % 67108864), .int .i64 ((s1 + s0 / 67108864) % 67108864), .int .i64 ((s2 + (s1 + s0 / 67108864) / 67108864) % 67108864), .int .i64 ((s2 + (s1 + s0 / 67108864) / 67108864) / 67108864)]) (by simp [results, Tryz.results193, go_sem]) rfl
    ⟨_, _, _, _, rfl, words_of HA.out HS.out g0 g1 g2, (((Below.refl _ _).alloc (Nat.le_refl _) _).alloc (by simp) _).drew.drew.drew⟩
end Go.Proofs.YtifapcpcemigdaaGreat
end
