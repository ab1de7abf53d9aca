/- Rf3, Rf4, Rf5, Rf6, Rf7, Rf8, Rf9. -/
import Derived.Test.YtmhbpifhpolghaaGreatM5cd86c4
set_option maxRecDepth 100000
set_option linter.unusedVariables false
set_option linter.unusedSimpArgs false
set_option linter.unusedSectionVars false
section
namespace Go.Proofs.YtmhbpifhpolghaaGreat
open Go.RowKit Go.Lib Go.Tk Go.Shelf Go.Vc Go.Sx
theorem mem_nilrow {cs : List Chunk} {w : World} (h : Mem cs w) (E size : Nat) : Mem (rowC E size (.slice none 0 0) 0 [] :: cs) w :=
  h.fresh (w' := w) (c := rowC E size (.slice none 0 0) 0 []) (Below.refl _ _) (fun _ => False) ⟨(fun g hg => by cases hg), by simp, .inl ⟨rfl, rfl⟩⟩ (fun k hk => hk.elim)
theorem go_nilrow {P : Program} {f : Nat} {ret : SV} {rp : Heap} {eb : Env} {R : List Chunk} {e : Ex} {K : List It} {sl : Slots} {H : Heap} (d k E size : Nat) (hu : lkS sl d = some (.val (.slice none 0 0)))
    (h1 : sl.all (fun x => x.2.ok (isNm k)) = true) (h2 : hok (isNm k) H = true) (h3 : nmIn (names H) (1, k) = false)
    (h : Go P f ret rp eb R e K (putS sl d (.raw 1 k)) (((1, k), .row E size 0 (.shal []) []) :: H)) : Go P f ret rp eb R e K sl H := by
  intro ε a w hr
  have key : ∀ s j, isNm k s j = true → ε s j = eset ε 1 (fun j => bif Nat.beq j k then (0, Value.slice none 0 0) else ε 1 j) s j := fun s j hs => by
    by_cases h0 : s = 1
    · subst h0
      rw [eset_at]
      cases hb : Nat.beq j k with
      | false => rfl
      | true => unfold isNm at hs; rw [hb] at hs; cases hs
    · rw [eset_ne h0]
  have ek : eset ε 1 (fun j => bif Nat.beq j k then (0, Value.slice none 0 0) else ε 1 j) 1 k = (0, Value.slice none 0 0) := by rw [eset_at, Nat.beq_refl]; rfl
  refine h (eset ε 1 fun j => bif Nat.beq j k then (0, Value.slice none 0 0) else ε 1 j) a w ⟨hr.size, hr.defers, ?_, ?_, ?_, ?_, ?_, hr.pos⟩
  · intro d' v hv
    rw [lkS_put] at hv
    by_cases hd : d' = d
    · rw [if_pos hd] at hv
      cases hv
      subst hd
      have := hr.slots d' _ hu
      refine ⟨?_, rfl⟩
      rw [this.1]
      simp only [SV.den, ek]; rfl
    · rw [if_neg hd] at hv
      have := hr.slots d' v hv
      refine ⟨?_, this.2⟩
      rw [this.1]
      have hok : v.ok (isNm k) = true := List.all_eq_true.1 h1 _ (lkS_mem hv)
      rw [SV.den_congr key v hok]
  · have h4 := mem_nilrow hr.mem E size
    rw [hden_congr key h2] at h4
    show Mem (rowC E size (asSl (eset ε 1 _ 1 k).2) 0 [] :: (hden (eset ε 1 _) H ++ R)) w
    rw [ek]; exact h4
  · show (((1, k) : Nm) :: names H).Nodup
    rw [List.nodup_cons]
    exact ⟨fun hmem => (by rw [nmIn_iff.2 hmem] at h3; cases h3), hr.nd⟩
  · have := hr.sc
    unfold hok at this ⊢
    exact List.all_eq_true.2 fun x hx => by
      rcases List.mem_cons.1 hx with rfl | hx
      · rfl
      · exact List.all_eq_true.1 this x hx
  · intro t ht
    rw [eset_ne (by omega)]
    exact hr.e0 t ht
def RShareF : Nat := 83
def RTicketF : Nat := 47
def RMakeF : Nat := 40
theorem rshare_w (t : Int) (ws : List Int) (hp : PosRow ws) (hl : ws.length ≤ 9223372036854775807) {xs : List Value} (hx : xs = ws.map (.int .u32)) {n : Nat} (hn : n = ws.length) :
    CallOK Tryz.prog RShareF [.val (.int .i64 t), .raw 0 0] [((0, 0), u32R n xs)] [] (.tup [.raw 1 0, eN (shareE t ws)]) [((1, 0), i64R (shareV t ws).length (shareV t ws))] := by
  subst hx; subst hn
  intro ε R w hM
  have hM : Mem (rowC 46 1 (asSl (ε 0 0).2) ws.length (ws.map (.int .u32)) :: R) w := hM
  obtain ⟨a, c, hv, hr, -⟩ := (hM.owns 0 rfl).row
  have hA : (SV.dens ε [.val (.int .i64 t), .raw 0 0]).toArray = #[.int .i64 t, .slice a ws.length c] := by simp only [SV.dens, SV.den]; rw [hv]
  rw [hA]
  refine (rshare_any t ws a c w hr hp hl).mono ?_
  rintro e w' ⟨v, rfl, ho, hb, -⟩
  have hrow := RowF.of ho
  have hv' : asSl v = v := by
    obtain ⟨-, ⟨h1, -⟩ | ⟨g, cap, cur, h1, -⟩⟩ := hrow <;> rw [h1] <;> rfl
  refine ⟨fun _ => (0, v), by simp only [SV.den, SV.dens, eN, eset_at, hv'], ?_⟩
  have h2 := hM.fresh (c := rowC 2 1 v (shareV t ws).length ((shareV t ws).map (.int .i64))) hb (fun g => v.ownBlock = some g) ⟨fun g hg => hg, hrow⟩ (fun g hg => ⟨by
    obtain ⟨-, ⟨h1, -⟩ | ⟨g', cap, cur, h1, h2, -⟩⟩ := ho
    · rw [h1] at hg; cases hg
    · rw [h1] at hg; cases hg; exact h2, hrow.lt hg⟩)
  have e0 : (SC.row 46 1 ws.length (.shal (ws.map (Value.int .u32))) []).den (eset ε 1 fun _ => (0, v)) 0 0 = rowC 46 1 (asSl (ε 0 0).2) ws.length (ws.map (.int .u32)) := by
    simp only [SC.den, SL.den]; rw [eset_ne (show (0 : Nat) ≠ 1 by decide)]
  have e1 : (i64R (shareV t ws).length (shareV t ws)).den (eset ε 1 fun _ => (0, v)) 1 0 = rowC 2 1 v (shareV t ws).length ((shareV t ws).map (.int .i64)) := by
    simp only [i64R, SC.den, SL.den, eset_at, hv']
  show Mem ((u32R ws.length (ws.map (.int .u32))).den (eset ε 1 fun _ => (0, v)) 0 0 :: (i64R (shareV t ws).length (shareV t ws)).den (eset ε 1 fun _ => (0, v)) 1 0 :: R) w'
  unfold u32R
  rw [e0, e1]
  exact mem_perm (List.Perm.swap _ _ _) h2
theorem rticket_w {c r n : Int} (hc : 0 ≤ c ∧ c ≤ 255) : CallOK Tryz.prog RTicketF [.agg [.val (.int .u8 c), .val (.int .u64 r)], .val (.int .i64 n)] [] [] (.val (.bool (ticketB c r n))) [] := by
  have w1 : IntKind.i64.wrap c = c := wr_i64 (by omega)
  unfold ticketB
  rcases Bool.eq_false_or_eq_true (decide (c < n)) with g1 | g1 <;> rw [g1]
  case inr => exact callOK_run 400 [hI 1 2 IntKind.i64 _ _ w1, hB 1 4 _ _ g1] (by kernel_rfl) (by kernel_rfl)
  rcases Bool.eq_false_or_eq_true (decide (1 ≤ r)) with g2 | g2 <;> rw [g2]
  case inr => exact callOK_run 400 [hI 1 2 IntKind.i64 _ _ w1, hB 1 4 _ _ g1, hB 1 8 _ _ g2] (by kernel_rfl) (by kernel_rfl)
  exact callOK_run 400 [hI 1 2 IntKind.i64 _ _ w1, hB 1 4 _ _ g1, hB 1 8 _ _ g2] (by kernel_rfl) (by kernel_rfl)
theorem rmake_no (F : CF) {c r n : Int} {s : SaleV} {A : SaleA} (ok : SaleOk s) (hc : 0 ≤ c ∧ c ≤ 255) (hl : ∀ b v, Rd (F b v) A.la (cellsL encLeg s.legs)) (ht : ∀ b v, Rd (F b v) A.ta (cellsL encTax s.taxes)) (hm : makeE c r s n ≠ 0) :
    CallOK Tryz.prog RMakeF [.agg [.val (.int .u8 c), .val (.int .u64 r)], .agg (salS s (.val (.slice A.la s.legs.length A.lc)) (.val (.slice A.ta s.taxes.length A.tc))), .val (.int .i64 n)] [((0, 9), .fam F)] [] (.tup [.agg (docS doc0 nilS nilS nilS), eN (makeE c r s n)]) [] := by
  have c1 := rcheck_w F n ok hl ht
  have c2 := rticket_w (r := r) (n := n) hc
  have one : (checkE s n = 1 ∨ ticketB c r n = false) → makeE c r s n = 1 := fun e => by unfold makeE; rw [if_pos e]
  rcases Bool.eq_false_or_eq_true (decide (n < 2)) with g1 | g1
  · rw [one (.inl (by unfold checkE; rw [if_pos (.inl (of_decide_eq_true g1))]))]
    clear one hm
    exact callOK_run 400 [hB 1 1 _ _ g1] (by kernel_rfl) (by kernel_rfl)
  rcases Bool.eq_false_or_eq_true (decide (8 < n)) with g2 | g2
  · rw [one (.inl (by unfold checkE; rw [if_pos (.inr (of_decide_eq_true g2))]))]
    clear one hm
    exact callOK_run 400 [hB 1 1 _ _ g1, hB 1 4 _ _ g2] (by kernel_rfl) (by kernel_rfl)
  cases hT : ticketB c r n with
  | false =>
    rw [one (.inr hT)]
    rw [hT] at c2
    clear one hm
    exact callOK_run 400 [hB 1 1 _ _ g1, hB 1 4 _ _ g2, hC 1 9 c2] (by kernel_rfl) (by kernel_rfl)
  | true =>
    have e : makeE c r s n = checkE s n := by
      unfold makeE
      by_cases h : checkE s n = 1
      · rw [if_pos (.inl h), h]
      · rw [if_neg (by rintro (h' | h'); exact h h'; rw [hT] at h'; cases h')]
    rw [hT] at c2
    rw [e] at hm ⊢
    have g3 : (!decide (checkE s n = 0)) = true := by simpa using hm
    clear one hm e hT
    generalize checkE s n = ce at *
    exact callOK_run 400 [hB 1 1 _ _ g1, hB 1 4 _ _ g2, hC 1 9 c2, hC 3 2 c1, hB 4 1 _ _ g3] (by kernel_rfl) (by kernel_rfl)
theorem rmake_in (F : CF) {eb : Env} {R : List Chunk} {c r : Int} {s : SaleV} {A : SaleA} (ok : SaleOk s) (hl : ∀ b v, Rd (F b v) A.la (cellsL encLeg s.legs)) (hS : shareE s.fare (wsOf s) = 0) :
    Go Tryz.prog RMakeF (.tup [.agg (docS (docMade ⟨c, r⟩ s) (.val (.slice A.la s.legs.length A.lc)) (.val (.slice A.ta s.taxes.length A.tc)) (.raw 1 2)), eN 0]) ([((0, 9), .fam F)] ++ [((1, 2), i64R (shareV s.fare (wsOf s)).length (shareV s.fare (wsOf s)))]) eb R .nrm (rgK Tryz.prog RMakeF 7 [])
      [(3, .ptr 1 0 0), (4, .ptr 1 1 0), (6, .ptr 1 2 0), (9, .val (.slice none 0 0))] [((0, 9), .fam F), ((1, 0), .box none [.val (.int .u8 c), .val (.int .u64 r)]), ((1, 1), .box none (salS s (.val (.slice A.la s.legs.length A.lc)) (.val (.slice A.ta s.taxes.length A.tc)))), ((1, 2), .box none (docS doc0 nilS nilS nilS))] := by
  have nl := ok.nl
  have hp := ws_pos ok
  refine go_nilrow 9 3 46 1 (by kernel_rfl) (by kernel_rfl) (by kernel_rfl) (by kernel_rfl) ?_
  refine go_loop (X := { i : Nat // i ≤ s.legs.length }) 0 [] (fun y => ([(3, .ptr 1 0 0), (4, .ptr 1 1 0), (6, .ptr 1 2 0), (9, .raw 1 3), (10, .val (.int .i64 (y.1 : Int)))],
      [((0, 9), .fam F), ((1, 0), .box none [.val (.int .u8 c), .val (.int .u64 r)]), ((1, 1), .box none (salS s (.val (.slice A.la s.legs.length A.lc)) (.val (.slice A.ta s.taxes.length A.tc)))), ((1, 2), .box none (docS doc0 nilS nilS nilS)), ((1, 3), u32R y.1 (wsV s.legs y.1))]))
    (fun y => s.legs.length - y.1) ⟨0, Nat.zero_le _⟩ calNone false 400 [] calNone_ok (by kernel_rfl) ?_
  rintro ⟨i, hi⟩ J hJ
  by_cases h : i < s.legs.length
  · have z0 : decide ((i : Int) < (s.legs.length : Int)) = true := decide_eq_true (by omega)
    have q1 := idx_openG (P := Tryz.prog) (t := 33) (e := 48) (size := 3) (j := 9) (k := .i64) (cap := A.lc) (n := s.legs.length) Tryz.underlying33 (by kernel_rfl) (cellsL_len encLeg_len _) hl h
    have q2 := load_openG (P := Tryz.prog) (t := 46) (k := i * 3) (j := 9) (u := .val (.int .u32 (s.legs.getD i leg0).x)) 2 (by kernel_rfl) hl (legS_nth (getD_some h leg0)) (by rw [cellsL_len encLeg_len]; omega)
    have q3 : i + 1 ≤ 1073741824 := by omega
    have z9 : IntKind.i64.wrap ((i : Int) + 1) = ((i + 1 : Nat) : Int) := by rw [wr_i64 (by omega)]; omega
    have hJ' := hJ ⟨i + 1, h⟩ (by show _ - (i + 1) < _ - i; omega)
    clear hJ
    exact leaf_round (lpK Tryz.prog RMakeF 0 []) false 400 [hB 8 4 _ _ z0, hG 10 4 q1, hG 10 6 q2, .opt 10 8 (.le _ q3), hI 9 1 IntKind.i64 _ _ z9] hJ' (by kernel_rfl)
  · have z0 : decide ((s.legs.length : Int) < (s.legs.length : Int)) = false := decide_eq_false (by omega)
    have he : i = s.legs.length := by omega
    subst he
    have c1 := rshare_w s.fare (wsOf s) hp (by rw [ws_len]; omega) (xs := wsV s.legs s.legs.length) (by rw [wsV_eq _ _ (Nat.le_refl _), List.take_length]; rfl) (n := s.legs.length) (ws_len s).symm
    rw [hS] at c1
    clear hJ hS
    exact leaf_end calNone false 400 [hB 8 4 _ _ z0, hC 11 3 c1] calNone_ok (by kernel_rfl)
theorem rmake_ok (F : CF) {c r n : Int} {s : SaleV} {A : SaleA} (ok : SaleOk s) (hc : 0 ≤ c ∧ c ≤ 255) (hl : ∀ b v, Rd (F b v) A.la (cellsL encLeg s.legs)) (ht : ∀ b v, Rd (F b v) A.ta (cellsL encTax s.taxes)) (hm : makeE c r s n = 0) :
    CallOK Tryz.prog RMakeF [.agg [.val (.int .u8 c), .val (.int .u64 r)], .agg (salS s (.val (.slice A.la s.legs.length A.lc)) (.val (.slice A.ta s.taxes.length A.tc))), .val (.int .i64 n)] [((0, 9), .fam F)] [] (.tup [.agg (docS (docMade ⟨c, r⟩ s) (.val (.slice A.la s.legs.length A.lc)) (.val (.slice A.ta s.taxes.length A.tc)) (.raw 1 2)), eN 0])
      [((1, 2), i64R (shareV s.fare (wsOf s)).length (shareV s.fare (wsOf s)))] := by
  have nl := ok.nl
  have hp := ws_pos ok
  have c1 := rcheck_w F n ok hl ht
  have c2 := rticket_w (r := r) (n := n) hc
  have hE : ¬ (checkE s n = 1 ∨ ticketB c r n = false) := fun e => by unfold makeE at hm; rw [if_pos e] at hm; cases hm
  have hck : checkE s n = 0 := by unfold makeE at hm; rwa [if_neg hE] at hm
  have hT : ticketB c r n = true := by
    cases h : ticketB c r n with
    | true => rfl
    | false => exact absurd (.inr h) hE
  have hn : ¬ (n < 2 ∨ 8 < n) := fun h => by unfold checkE at hck; rw [if_pos h] at hck; cases hck
  have g1 : decide (n < 2) = false := decide_eq_false (by omega)
  have g2 : decide (8 < n) = false := decide_eq_false (by omega)
  rw [hT] at c2
  rw [hck] at c1
  obtain ⟨-, -, hsh, -⟩ := check_shape hck
  obtain ⟨hS, -⟩ := shape_share ok hsh
  refine callOK_intro (by kernel_rfl) fun eb R => ?_
  have fin := rmake_in F (eb := eb) (R := R) (c := c) (r := r) (A := A) ok hl hS
  clear hE hT hck hm hn hS hsh
  exact leaf_cut (rgK Tryz.prog RMakeF 7 []) _ _ calNone false 400 [hB 1 1 _ _ g1, hB 1 4 _ _ g2, hC 1 9 c2, hC 3 2 c1, .stop 7] calNone_ok (by kernel_rfl) fin
def RNewF : Nat := 8
theorem rnew_no {self n : Int} (hs : 0 ≤ self ∧ self ≤ 255) (h : n < 2 ∨ 8 < n ∨ n ≤ self) : CallOK Tryz.prog RNewF [.val (.int .u8 self), .val (.int .i64 n)] [] [] (.val (.pointer none)) [] := by
  have w1 : IntKind.i64.wrap self = self := wr_i64 (by omega)
  rcases Bool.eq_false_or_eq_true (decide (n < 2)) with g1 | g1
  · clear h; exact callOK_run 400 [hB 1 1 _ _ g1] (by kernel_rfl) (by kernel_rfl)
  rcases Bool.eq_false_or_eq_true (decide (8 < n)) with g2 | g2
  · clear h; exact callOK_run 400 [hB 1 1 _ _ g1, hB 1 4 _ _ g2] (by kernel_rfl) (by kernel_rfl)
  have g3 : decide (n ≤ self) = true := by
    have a1 := of_decide_eq_false g1
    have a2 := of_decide_eq_false g2
    exact decide_eq_true (by omega)
  clear h
  exact callOK_run 400 [hB 1 1 _ _ g1, hB 1 4 _ _ g2, hI 1 8 IntKind.i64 _ _ w1, hB 1 10 _ _ g3] (by kernel_rfl) (by kernel_rfl)
theorem rnew_ok {self n : Int} (hs : 0 ≤ self ∧ self < n) (h1 : 2 ≤ n) (h2 : n ≤ 8) : CallOK Tryz.prog RNewF [.val (.int .u8 self), .val (.int .i64 n)] [] [] (.ptr 1 0 0) [((1, 0), .box none [.val (.int .u8 self), .val (.int .i64 n), nilS, nilS, nilS])] := by
  have w1 : IntKind.i64.wrap self = self := wr_i64 (by omega)
  have g1 : decide (n < 2) = false := decide_eq_false (by omega)
  have g2 : decide (8 < n) = false := decide_eq_false (by omega)
  have g3 : decide (n ≤ self) = false := decide_eq_false (by omega)
  exact callOK_run 400 [hB 1 1 _ _ g1, hB 1 4 _ _ g2, hI 1 8 IntKind.i64 _ _ w1, hB 1 10 _ _ g3] (by kernel_rfl) (by kernel_rfl)
structure RefV where
  self : Int
  n : Int
  docs : List (DocV × SaleA)
  owns : List (Kid × OwnV)
  helds : List (Kid × HeldV)
def kidL (k : Kid) : List Value := [.int .u8 k.t.c, .int .u64 k.t.r, .int .u8 k.i]
def mineC (x : Kid × OwnV) : List Value := kidL x.1 ++ ownL x.2
def otherC (x : Kid × HeldV) : List Value := kidL x.1 ++ heldL x.2
def mineS (x : Kid × OwnV) : List SV := kidS x.1 ++ ownS x.2
def otherS (x : Kid × HeldV) : List SV := kidS x.1 ++ heldS x.2
def rownsF (l : List (Kid × OwnV)) : CF := qF 71 13 mineC l
def rheldsF (l : List (Kid × HeldV)) : CF := qF 124 13 otherC l
structure RfA where
  d : Value
  o : Value
  h : Value
def refF (D : CF) (B : RefV) : CF := fun b _ => exC fun (a : RfA) => allC [boxE none b #[.int .u8 B.self, .int .i64 B.n, a.d, a.o, a.h], D 0 a.d, rownsF B.owns 0 a.o, rheldsF B.helds 0 a.h]
def rfS (D : CF) (B : RefV) (s : Nat) : Heap := [((s, 0), .box none [.val (.int .u8 B.self), .val (.int .i64 B.n), .any s 1, .any s 2, .any s 3]), ((s, 1), .fam fun _ v => D 0 v), ((s, 2), .fam (rownsF B.owns)), ((s, 3), .fam (rheldsF B.helds))]
def rfC (D : CF) (B : RefV) : Heap := [((0, 0), .fam (refF D B))]
theorem rf_packs (D : CF) (B : RefV) : Packs (refF D B) (rfS D B) 3 where
  opens := fun b v R w h => by
    obtain ⟨a, h1⟩ := h.ex
    have h2 := h1.all
    refine ⟨fun k => match k with
      | 0 => (b, v)
      | 1 => (0, a.d)
      | 2 => (0, a.o)
      | _ => (0, a.h), rfl, fun ε he => ?_⟩
    have e0 := he 0 (by decide)
    have e1 := he 1 (by decide)
    have e2 := he 2 (by decide)
    have e3 := he 3 (by decide)
    simp only [rfS, hden, List.map_cons, List.map_nil, SC.den, SV.dens, SV.den, e0, e1, e2, e3]
    exact h2
  shuts := fun s ε R w h => by
    have h1 : Mem ([boxE none (ε s 0).1 #[.int .u8 B.self, .int .i64 B.n, (ε s 1).2, (ε s 2).2, (ε s 3).2], D 0 (ε s 1).2, rownsF B.owns 0 (ε s 2).2, rheldsF B.helds 0 (ε s 3).2] ++ R) w := h
    exact Mem.in_ex ⟨(ε s 1).2, (ε s 2).2, (ε s 3).2⟩ h1.in_all
def rfM (D : CF) (B : RefV) (n0 n1 n2 n3 : Nm) : Heap := [(n0, .box none [.val (.int .u8 B.self), .val (.int .i64 B.n), .any n1.1 n1.2, .any n2.1 n2.2, .any n3.1 n3.2]), (n1, .fam fun _ v => D 0 v), (n2, .fam fun _ v => rownsF B.owns 0 v), (n3, .fam fun _ v => rheldsF B.helds 0 v)]
def rfN (D : CF) (B : RefV) (n1 n2 n3 : Nm) : Heap := rfM D B (0, 0) n1 n2 n3
theorem rfM_shut (D : CF) (B : RefV) (n0 n1 n2 n3 : Nm) (ε : Env) (R : List Chunk) (w : World) (h : Mem (hden ε (rfM D B n0 n1 n2 n3) ++ R) w) : Mem (refF D B (ε n0.1 n0.2).1 (ε n0.1 n0.2).2 :: R) w := by
  have h1 : Mem ([boxE none (ε n0.1 n0.2).1 #[.int .u8 B.self, .int .i64 B.n, (ε n1.1 n1.2).2, (ε n2.1 n2.2).2, (ε n3.1 n3.2).2], D 0 (ε n1.1 n1.2).2, rownsF B.owns 0 (ε n2.1 n2.2).2, rheldsF B.helds 0 (ε n3.1 n3.2).2] ++ R) w := h
  exact Mem.in_ex ⟨(ε n1.1 n1.2).2, (ε n2.1 n2.2).2, (ε n3.1 n3.2).2⟩ h1.in_all
theorem packs_self (F : CF) (m : Nat) : Packs F (fun s => [((s, 0), .fam F)]) m where
  opens := fun b v R w h => ⟨fun _ => (b, v), rfl, fun ε he => by
    have e0 := he 0 (Nat.zero_le _)
    simp only [hden, List.map_cons, List.map_nil, SC.den, e0]
    exact h⟩
  shuts := fun s ε R w h => h
theorem rfN_shut (D : CF) (B : RefV) (n1 n2 n3 : Nm) (ε : Env) (R : List Chunk) (w : World) (h : Mem (hden ε (rfN D B n1 n2 n3) ++ R) w) : Mem (refF D B (ε 0 0).1 (ε 0 0).2 :: R) w := rfM_shut D B (0, 0) n1 n2 n3 ε R w h
def noK (a b c : Nat) : Nat → Nat → Bool := fun s j => !(Nat.beq s 1 && (Nat.beq j a || (Nat.beq j b || Nat.beq j c)))
theorem go_ref {f : Nat} {ret : SV} {rp : Heap} {eb : Env} {R : List Chunk} {e : Ex} {K : List It} {sl : Slots} {H : Heap} {D : CF} {B : RefV} (j a b c : Nat) (h0 : (!(Nat.beq a b) && (!(Nat.beq a c) && !(Nat.beq b c))) = true) (h1 : sl.all (fun x => x.2.ok (noK a b c)) = true) (h2 : hok (noK a b c) (((1, j), .fam (refF D B)) :: H) = true)
    (h3 : ndB (names (rfM D B (1, j) (1, a) (1, b) (1, c) ++ H)) = true) (h : Go Tryz.prog f ret rp eb R e K sl (rfM D B (1, j) (1, a) (1, b) (1, c) ++ H)) : Go Tryz.prog f ret rp eb R e K sl (((1, j), .fam (refF D B)) :: H) := by
  intro ε a' w hr
  have hM : Mem (refF D B (ε 1 j).1 (ε 1 j).2 :: (hden ε H ++ R)) w := hr.mem
  obtain ⟨x, hM1⟩ := hM.ex
  have hM2 := hM1.all
  have key : ∀ s i, noK a b c s i = true → ε s i = eset ε 1 (fun i => bif Nat.beq i a then (0, x.d) else bif Nat.beq i b then (0, x.o) else bif Nat.beq i c then (0, x.h) else ε 1 i) s i := fun s i hs => by
    by_cases q : s = 1
    · subst q
      rw [eset_at]
      unfold noK at hs
      cases h4 : Nat.beq i a with
      | true => rw [h4] at hs; cases hs
      | false =>
        cases h5 : Nat.beq i b with
        | true => rw [h4, h5] at hs; cases hs
        | false =>
          cases h6 : Nat.beq i c with
          | true => rw [h4, h5, h6] at hs; cases hs
          | false => rfl
    · rw [eset_ne q]
  unfold hok at h2
  rw [List.all_cons, Bool.and_eq_true, Bool.and_eq_true] at h2
  have ej := key 1 j h2.1.1
  simp only [Bool.and_eq_true, Bool.not_eq_true'] at h0
  have sym : ∀ p q : Nat, Nat.beq p q = false → Nat.beq q p = false := fun p q hp => by
    cases hq : Nat.beq q p with
    | false => rfl
    | true => exact absurd hp (by rw [Nat.eq_of_beq_eq_true hq, Nat.beq_refl]; decide)
  have hba := sym _ _ h0.1
  have hca := sym _ _ h0.2.1
  have hcb := sym _ _ h0.2.2
  have ea : eset ε 1 (fun i => bif Nat.beq i a then (0, x.d) else bif Nat.beq i b then (0, x.o) else bif Nat.beq i c then (0, x.h) else ε 1 i) 1 a = (0, x.d) := by
    rw [eset_at]
    show (bif Nat.beq a a then _ else _) = _
    rw [Nat.beq_refl]; rfl
  have eb' : eset ε 1 (fun i => bif Nat.beq i a then (0, x.d) else bif Nat.beq i b then (0, x.o) else bif Nat.beq i c then (0, x.h) else ε 1 i) 1 b = (0, x.o) := by
    rw [eset_at]
    show (bif Nat.beq b a then _ else bif Nat.beq b b then _ else _) = _
    rw [hba, Nat.beq_refl]; rfl
  have ec : eset ε 1 (fun i => bif Nat.beq i a then (0, x.d) else bif Nat.beq i b then (0, x.o) else bif Nat.beq i c then (0, x.h) else ε 1 i) 1 c = (0, x.h) := by
    rw [eset_at]
    show (bif Nat.beq c a then _ else bif Nat.beq c b then _ else bif Nat.beq c c then _ else _) = _
    rw [hca, hcb, Nat.beq_refl]; rfl
  refine h (eset ε 1 fun i => bif Nat.beq i a then (0, x.d) else bif Nat.beq i b then (0, x.o) else bif Nat.beq i c then (0, x.h) else ε 1 i) a' w ⟨hr.size, hr.defers, ?_, ?_, ndB_nodup h3, ?_, ?_, hr.pos⟩
  · intro d v hv
    have := hr.slots d v hv
    exact ⟨by rw [this.1, SV.den_congr key v (List.all_eq_true.1 h1 _ (lkS_mem hv))], this.2⟩
  · have h7 := hden_congr key (H := H) h2.2
    show Mem (hden (eset ε 1 _) (rfM D B (1, j) (1, a) (1, b) (1, c) ++ H) ++ R) w
    rw [hden_append, ← h7]
    simp only [rfM, hden, List.map_cons, List.map_nil, SC.den, SV.dens, SV.den]
    rw [ea, eb', ec, ← ej]
    exact hM2
  · have := hr.sc
    unfold hok at this ⊢
    rw [List.all_cons, Bool.and_eq_true] at this
    rw [List.all_append, this.2, Bool.and_true]
    rfl
  · intro t ht
    rw [eset_ne (by omega)]
    exact hr.e0 t ht
theorem rshutN {f : Nat} {args : List SV} {rd post : Heap} {ret : SV} {D D' : CF} {B B' : RefV} {n1 n2 n3 : Nm} (h : CallOK Tryz.prog f args rd (rfS D B 0) ret (rfN D' B' n1 n2 n3 ++ post)) (h1 : SV.oks (noIn 3) args = true) (h2 : hok (noIn 3) rd = true) (h3 : ret.ok (noIn 3) = true) (h4 : hok (noIn 3) post = true) :
    CallOK Tryz.prog f args rd (rfC D B) ret (rfC D' B' ++ post) := by
  have e : CallOK Tryz.prog f args [] (rfS D B 0 ++ rd) ret ([((0, 0), .fam (refF D' B'))] ++ (rd ++ post)) := by
    have h5 := (h.of_rd.pre_mono (pre' := rfS D B 0 ++ rd) (fun ε R w hM => ?_)).post_mono (post' := [((0, 0), .fam (refF D' B'))] ++ (rd ++ post)) (fun ε R w hM => ?_)
    · exact h5
    · rw [hden_append] at hM ⊢
      exact mem_perm (List.Perm.append_right R List.perm_append_comm) hM
    · have hM2 : Mem (hden ε (rfN D' B' n1 n2 n3) ++ (hden ε (rd ++ post) ++ R)) w := by
        rw [hden_append, hden_append] at hM
        rw [hden_append]
        rw [← List.append_assoc]
        refine mem_perm (List.Perm.append_right R ?_) hM
        rw [← List.append_assoc, ← List.append_assoc]
        exact List.Perm.append_right _ List.perm_append_comm
      exact rfN_shut D' B' n1 n2 n3 ε _ w hM2
  have h6 := CallOK.pack (rf_packs D B) (packs_self (refF D' B') 3) e h1 h2 h3 (by unfold hok at h2 h4 ⊢; rw [List.all_append, h2, h4]; rfl)
  refine CallOK.to_rd ((h6.pre_mono (pre' := rd ++ rfC D B) (fun ε R w hM => ?_)).post_mono (post' := rd ++ (rfC D' B' ++ post)) (fun ε R w hM => ?_))
  · rw [hden_append] at hM
    have := mem_perm (List.Perm.append_right R List.perm_append_comm) hM
    exact this
  · have hM : Mem ((hden ε (rfC D' B') ++ hden ε (rd ++ post)) ++ R) w := hM
    rw [hden_append] at hM
    rw [hden_append, hden_append]
    refine mem_perm (List.Perm.append_right R ?_) hM
    rw [← List.append_assoc, ← List.append_assoc]
    exact List.Perm.append_right _ List.perm_append_comm
def rkEq (a b : Kid) : Bool := (decide (a.t.c = b.t.c) && (decide (a.t.r = b.t.r) && true)) && (decide (a.i = b.i) && true)
theorem rkEq_iff (a b : Kid) : rkEq a b = true ↔ a = b := by
  obtain ⟨⟨a1, a2⟩, a3⟩ := a
  obtain ⟨⟨b1, b2⟩, b3⟩ := b
  unfold rkEq
  simp [and_assoc]
def mine0 : Kid × OwnV := (⟨⟨0, 0⟩, 0⟩, own0)
def rIx {α : Type} (l : List (Kid × α)) (k : Kid) : Int := match l.findIdx? (fun p => rkEq p.1 k) with
  | some i => (i : Int)
  | none => -1
theorem rIx_at {α : Type} {l : List (Kid × α)} {k : Kid} {i : Nat} {z : Kid × α} (hi : i < l.length) (h : rkEq (l.getD i z).1 k = true) (hb : ∀ j, j < i → rkEq (l.getD j z).1 k = false) : rIx l k = (i : Int) := by
  have e : l.findIdx? (fun p => rkEq p.1 k) = some i := by
    rw [List.findIdx?_eq_some_iff_getElem]
    refine ⟨hi, ?_, fun j hj => ?_⟩
    · rw [List.getD_eq_getElem?_getD, List.getElem?_eq_getElem hi] at h; exact h
    · have := hb j hj
      rw [List.getD_eq_getElem?_getD, List.getElem?_eq_getElem (by omega)] at this
      have h2 : rkEq l[j].1 k = false := this
      rw [h2]; decide
  unfold rIx; rw [e]
theorem rIx_none {α : Type} {l : List (Kid × α)} {k : Kid} {z : Kid × α} (hb : ∀ j, j < l.length → rkEq (l.getD j z).1 k = false) : rIx l k = -1 := by
  have e : l.findIdx? (fun p => rkEq p.1 k) = none := by
    rw [List.findIdx?_eq_none_iff]
    intro x hx
    obtain ⟨j, hj, rfl⟩ := List.mem_iff_getElem.1 hx
    have := hb j hj
    rw [List.getD_eq_getElem?_getD, List.getElem?_eq_getElem hj] at this
    exact this
  unfold rIx; rw [e]
def ROwnF : Nat := 17
theorem mineS_nth {l : List (Kid × OwnV)} {i : Nat} (h : i < l.length) : ∀ (ε : Env) (q : Nat) (v : SV), (mineS (l.getD i mine0))[q]? = some v → (cellsL mineC l)[i * 13 + q]? = some (v.den ε) :=
  cells_nth (enc := mineC) (encS := mineS) (fun _ _ => rfl) (fun _ => rfl) (getD_some h mine0)
theorem rown_w (D : CF) (B : RefV) (k : Kid) (hn : B.owns.length ≤ 9223372036854775807) : CallOK Tryz.prog ROwnF [.ptr 0 0 0, .agg (kidS k)] (rfS D B 0) [] (.val (.int .i64 (rIx B.owns k))) [] := by
  refine callOK_intro (by kernel_rfl) fun eb R => ?_
  have ql := q_len (P := Tryz.prog) (E := 71) (size := 13) (enc := mineC) B.owns
  refine go_loop (X := { i : Nat // i ≤ B.owns.length ∧ ∀ j, j < i → rkEq (B.owns.getD j mine0).1 k = false }) 0 [] (fun y => ([(0, .ptr 0 0 0), (3, .ptr 1 0 0), (5, .val (.int .i64 (y.1 : Int)))], rfS D B 0 ++ [((1, 0), .box none (kidS k))])) (fun y => B.owns.length - y.1) ⟨0, Nat.zero_le _, fun j hj => by omega⟩ calNone false 400 [] calNone_ok (by kernel_rfl) ?_
  rintro ⟨i, hi, hp⟩ J hJ
  by_cases h : i < B.owns.length
  · have z0 : decide ((i : Int) < (B.owns.length : Int)) = true := decide_eq_true (by omega)
    have q1 := q_idx (P := Tryz.prog) (t := 64) (i := i) (k := .i64) (E := 71) (size := 13) (enc := mineC) B.owns (fun _ => rfl) (by decide) (by kernel_rfl) h
    have q2 := q_load (P := Tryz.prog) (t := 44) (b := i * 13) (j := 0) (cs := mineS (B.owns.getD i mine0)) (u := .agg (kidS (B.owns.getD i mine0).1)) (E := 71) (size := 13) (enc := mineC) B.owns (by kernel_rfl) (mineS_nth h)
    have z9 : IntKind.i64.wrap ((i : Int) + 1) = ((i + 1 : Nat) : Int) := by rw [wr_i64 (by omega)]; omega
    have at_ := rIx_at (z := mine0) (k := k) h
    have hJ' : rkEq (B.owns.getD i mine0).1 k = false → ∀ ε a' w, Rel (ntOf Tryz.prog ROwnF) 1 eb R ⟨[(0, .ptr 0 0 0), (3, .ptr 1 0 0), (5, .val (.int .i64 ((i + 1 : Nat) : Int)))], rfS D B 0 ++ [((1, 0), .box none (kidS k))], 2⟩ ε a' w → J a' w := fun hg => hJ ⟨i + 1, h, fun j hj => by
      rcases Nat.lt_or_ge j i with hj' | hj'
      · exact hp j hj'
      · have : j = i := by omega
        subst this; exact hg⟩ (by show _ - (i + 1) < _ - i; omega)
    clear hJ
    show Go Tryz.prog ROwnF _ (rfS D B 0 ++ []) eb R .nrm (.code (lpB Tryz.prog ROwnF 0 []) :: .lp J :: lpK Tryz.prog ROwnF 0 []) [(0, .ptr 0 0 0), (3, .ptr 1 0 0), (5, .val (.int .i64 (i : Int)))] (rfS D B 0 ++ [((1, 0), .box none (kidS k))])
    generalize B.owns.getD i mine0 = x at *
    rcases Bool.eq_false_or_eq_true (rkEq x.1 k) with e | e
    · rw [at_ e hp]
      unfold rkEq at e
      clear hJ' at_ hp
      exact leaf_end calNone false 400 [hG 2 5 ql, hB 2 6 _ _ z0, hG 4 5 q1, hG 4 7 q2, hB 4 9 _ _ e] calNone_ok (by kernel_rfl)
    · have hJ' := hJ' e
      unfold rkEq at e
      clear at_ hp
      exact leaf_round (lpK Tryz.prog ROwnF 0 []) false 400 [hG 2 5 ql, hB 2 6 _ _ z0, hG 4 5 q1, hG 4 7 q2, hB 4 9 _ _ e, hI 3 1 IntKind.i64 _ _ z9] hJ' (by kernel_rfl)
  · have z0 : decide ((i : Int) < (B.owns.length : Int)) = false := decide_eq_false (by omega)
    have he : i = B.owns.length := by omega
    have e1 := rIx_none (l := B.owns) (z := mine0) (k := k) (fun j hj => hp j (by omega))
    rw [e1]
    clear hJ e1
    show Go Tryz.prog ROwnF _ (rfS D B 0 ++ []) eb R .nrm (.code (lpB Tryz.prog ROwnF 0 []) :: .lp J :: lpK Tryz.prog ROwnF 0 []) [(0, .ptr 0 0 0), (3, .ptr 1 0 0), (5, .val (.int .i64 (i : Int)))] (rfS D B 0 ++ [((1, 0), .box none (kidS k))])
    subst he
    clear hp
    exact leaf_end calNone false 400 [hG 2 5 ql, hB 2 6 _ _ z0] calNone_ok (by kernel_rfl)
def AheadF : Nat := 49
def aheadB (a b : Kid) : Bool := bif !decide (a.t.c = b.t.c) then decide (a.t.c < b.t.c) else bif !decide (a.t.r = b.t.r) then decide (a.t.r < b.t.r) else decide (a.i < b.i)
theorem ahead_w (a b : Kid) : CallOK Tryz.prog AheadF [.agg (kidS a), .agg (kidS b)] [] [] (.val (.bool (aheadB a b))) [] := by
  unfold aheadB
  rcases Bool.eq_false_or_eq_true (!decide (a.t.c = b.t.c)) with g1 | g1 <;> rw [g1]
  · exact callOK_run 400 [hB 1 6 _ _ g1] (by kernel_rfl) (by kernel_rfl)
  rcases Bool.eq_false_or_eq_true (!decide (a.t.r = b.t.r)) with g2 | g2 <;> rw [g2]
  · exact callOK_run 400 [hB 1 6 _ _ g1, hB 3 6 _ _ g2] (by kernel_rfl) (by kernel_rfl)
  exact callOK_run 400 [hB 1 6 _ _ g1, hB 3 6 _ _ g2] (by kernel_rfl) (by kernel_rfl)
def other0 : Kid × HeldV := (⟨⟨0, 0⟩, 0⟩, held0)
def RHeldF : Nat := 48
theorem otherS_nth {l : List (Kid × HeldV)} {i : Nat} (h : i < l.length) : ∀ (ε : Env) (q : Nat) (v : SV), (otherS (l.getD i other0))[q]? = some v → (cellsL otherC l)[i * 13 + q]? = some (v.den ε) :=
  cells_nth (enc := otherC) (encS := otherS) (fun _ _ => rfl) (fun _ => rfl) (getD_some h other0)
theorem rheld_w (D : CF) (B : RefV) (k : Kid) (hn : B.helds.length ≤ 9223372036854775807) : CallOK Tryz.prog RHeldF [.ptr 0 0 0, .agg (kidS k)] (rfS D B 0) [] (.val (.int .i64 (rIx B.helds k))) [] := by
  refine callOK_intro (by kernel_rfl) fun eb R => ?_
  have ql := q_len (P := Tryz.prog) (E := 124) (size := 13) (enc := otherC) B.helds
  refine go_loop (X := { i : Nat // i ≤ B.helds.length ∧ ∀ j, j < i → rkEq (B.helds.getD j other0).1 k = false }) 0 [] (fun y => ([(0, .ptr 0 0 0), (3, .ptr 1 0 0), (5, .val (.int .i64 (y.1 : Int)))], rfS D B 0 ++ [((1, 0), .box none (kidS k))])) (fun y => B.helds.length - y.1) ⟨0, Nat.zero_le _, fun j hj => by omega⟩ calNone false 400 [] calNone_ok (by kernel_rfl) ?_
  rintro ⟨i, hi, hp⟩ J hJ
  by_cases h : i < B.helds.length
  · have z0 : decide ((i : Int) < (B.helds.length : Int)) = true := decide_eq_true (by omega)
    have q1 := q_idx (P := Tryz.prog) (t := 65) (i := i) (k := .i64) (E := 124) (size := 13) (enc := otherC) B.helds (fun _ => rfl) (by decide) (by kernel_rfl) h
    have q2 := q_load (P := Tryz.prog) (t := 44) (b := i * 13) (j := 0) (cs := otherS (B.helds.getD i other0)) (u := .agg (kidS (B.helds.getD i other0).1)) (E := 124) (size := 13) (enc := otherC) B.helds (by kernel_rfl) (otherS_nth h)
    have z9 : IntKind.i64.wrap ((i : Int) + 1) = ((i + 1 : Nat) : Int) := by rw [wr_i64 (by omega)]; omega
    have at_ := rIx_at (z := other0) (k := k) h
    have hJ' : rkEq (B.helds.getD i other0).1 k = false → ∀ ε a' w, Rel (ntOf Tryz.prog RHeldF) 1 eb R ⟨[(0, .ptr 0 0 0), (3, .ptr 1 0 0), (5, .val (.int .i64 ((i + 1 : Nat) : Int)))], rfS D B 0 ++ [((1, 0), .box none (kidS k))], 2⟩ ε a' w → J a' w := fun hg => hJ ⟨i + 1, h, fun j hj => by
      rcases Nat.lt_or_ge j i with hj' | hj'
      · exact hp j hj'
      · have : j = i := by omega
        subst this; exact hg⟩ (by show _ - (i + 1) < _ - i; omega)
    clear hJ
    show Go Tryz.prog RHeldF _ (rfS D B 0 ++ []) eb R .nrm (.code (lpB Tryz.prog RHeldF 0 []) :: .lp J :: lpK Tryz.prog RHeldF 0 []) [(0, .ptr 0 0 0), (3, .ptr 1 0 0), (5, .val (.int .i64 (i : Int)))] (rfS D B 0 ++ [((1, 0), .box none (kidS k))])
    generalize B.helds.getD i other0 = x at *
    rcases Bool.eq_false_or_eq_true (rkEq x.1 k) with e | e
    · rw [at_ e hp]
      unfold rkEq at e
      clear hJ' at_ hp
      exact leaf_end calNone false 400 [hG 2 5 ql, hB 2 6 _ _ z0, hG 4 5 q1, hG 4 7 q2, hB 4 9 _ _ e] calNone_ok (by kernel_rfl)
    · have hJ' := hJ' e
      unfold rkEq at e
      clear at_ hp
      exact leaf_round (lpK Tryz.prog RHeldF 0 []) false 400 [hG 2 5 ql, hB 2 6 _ _ z0, hG 4 5 q1, hG 4 7 q2, hB 4 9 _ _ e, hI 3 1 IntKind.i64 _ _ z9] hJ' (by kernel_rfl)
  · have z0 : decide ((i : Int) < (B.helds.length : Int)) = false := decide_eq_false (by omega)
    have he : i = B.helds.length := by omega
    have e1 := rIx_none (l := B.helds) (z := other0) (k := k) (fun j hj => hp j (by omega))
    rw [e1]
    clear hJ e1
    show Go Tryz.prog RHeldF _ (rfS D B 0 ++ []) eb R .nrm (.code (lpB Tryz.prog RHeldF 0 []) :: .lp J :: lpK Tryz.prog RHeldF 0 []) [(0, .ptr 0 0 0), (3, .ptr 1 0 0), (5, .val (.int .i64 (i : Int)))] (rfS D B 0 ++ [((1, 0), .box none (kidS k))])
    subst he
    clear hp
    exact leaf_end calNone false 400 [hG 2 5 ql, hB 2 6 _ _ z0] calNone_ok (by kernel_rfl)
end Go.Proofs.YtmhbpifhpolghaaGreat
end
section
namespace Go.Sx
open Go.RowKit Go.Lib Go.Tk Go.Shelf Go.Vc
section
variable {P : Program}
attribute [-go_sem] Value.cells in
theorem Mem.storeQ {cs : List Chunk} {w : World} (h : Mem cs w) (i : Nat) {E size n : Nat} {v : Value} {xs : List Value} (hi : cs[i]? = some (qcC E size v n xs)) (t : TypeId) (off : Nat) (u : Value) (cells : List Value) (hv : u.cells = cells.toArray)
    (ht : (P.info? t).map (·.size) = some cells.length) (hl : off + cells.length ≤ xs.length) (h1 : cells.all (·.oneCell') = true) (h0 : 0 < xs.length) :
    ∃ w', Sem.run P (Instr.storeAt t (.pointer (some ⟨(adOf v).block, (adOf v).off + off, none⟩)) u) w = .ok () w' ∧ Mem (cs.set i (qcC E size v n (over xs.toArray off cells).toList)) w' := by
  have hb := Mem.qs h i hi
  obtain ⟨hlen, ⟨h1', h2⟩ | ⟨g, lo, cap, cur, rfl, hbx, hnc, hcm, hcs, htake⟩⟩ := hb
  · subst h2; simp at hlen; rw [hlen] at h0; simp at h0
  have hxl : lo * size + xs.length ≤ cur.size := by
    have h5 : n * size ≤ cap * size := Nat.mul_le_mul_right _ hnc
    rw [Nat.add_mul] at hcs
    omega
  obtain ⟨w', h4, h2, h3⟩ := run_storeCells P cells (lo * size + off) 0 cur w hbx (by omega) h1
  rw [Nat.add_zero] at h3
  have hxc : xs = (cur.toList.drop (lo * size)).take xs.length := by rw [hlen]; exact htake.symm
  refine ⟨w', ?_, h.step i hi (fun S hS hlt => ⟨h2.mono (fun k _ e => by rw [e]; exact hS.1 g rfl), fun k => k = g, ⟨fun g' hg => by cases hg; rfl, ?_, .inr ⟨g, lo, cap, _, rfl, h3, hnc, hcm, ?_, ?_⟩⟩, fun k hk => ⟨.inl (by rw [hk]; exact hS.1 g rfl), by rw [hk]; exact h3.lt⟩⟩)⟩
  · obtain ⟨i0, hi0, hs0⟩ := Option.map_eq_some_iff.1 ht
    have hv2 : u.cells.size = cells.length := by rw [hv]; simp
    have hv3 : u.cells.toList = cells := by rw [hv]
    simp [Instr.storeAt, Instr.sureAddr, storeVar, sizeOf, typeInfo, go_sem, hi0, hs0, adOf, hv2, hv3, h4]
  · rw [← hlen]; unfold over; simp [List.length_take]; omega
  · have e9 : (over cur (lo * size + off) cells).size = cur.size := by unfold over; simp [List.length_take]; omega
    rw [e9]; exact hcs
  · rw [← hlen]
    have e0 : (over cur (lo * size + off) cells).toList.drop (lo * size) = (cur.toList.drop (lo * size)).take off ++ cells ++ (cur.toList.drop (lo * size)).drop (off + cells.length) := by
      unfold over
      simp only [List.append_assoc]
      rw [List.drop_append_of_le_length (by rw [List.length_take]; simp only [Array.length_toList]; omega), List.drop_take, Nat.add_sub_cancel_left, List.drop_drop]
      simp only [Nat.add_assoc]
    rw [e0]
    have hD : (cur.toList.drop (lo * size)).length = cur.size - lo * size := by simp
    generalize cur.toList.drop (lo * size) = D at *
    unfold over
    simp only [List.append_assoc]
    rw [List.take_append, List.take_append]
    simp only [List.length_take]
    have e1 : min off D.length = off := by omega
    have e2 : (D.take off).take xs.length = xs.take off := by
      have e5 : xs.take off = (D.take xs.length).take off := by rw [← hxc]
      rw [e5, List.take_take, List.take_take, Nat.min_comm]
    have e3 : cells.take (xs.length - off) = cells := List.take_of_length_le (by omega)
    rw [e1, e2, e3]
    congr 2
    have : xs.drop (off + cells.length) = (D.take xs.length).drop (off + cells.length) := by rw [← hxc]
    rw [this, List.drop_take]
    congr 1; omega
def isSto (t : TypeId) (o : Oper) : Bool := match o.op with
  | .store t' _ _ => Nat.beq t t'
  | _ => false
def stoXY (o : Oper) : List Operand := match o.op with
  | .store _ x y => [x, y]
  | _ => []
theorem q_store {α : Type} {E size : Nat} {enc : α → List Value} {t b j : Nat} {cs : List SV} {us : List Value} (l l' : List α) (ht : (P.info? t).map (·.size) = some us.length) (hcs : ∀ ε, SV.dens ε cs = us) (h1 : us.all (·.oneCell') = true)
    (h0 : 0 < (cellsL enc l).length) (hl : b + j + us.length ≤ (cellsL enc l).length) (hn : l'.length = l.length) (hov : (over (cellsL enc l).toArray (b + j) us).toList = cellsL enc l') :
    OpG P (isSto t) stoXY [.elt 0 0 0 b j, .agg cs] [] [((0, 0), .fam (qF E size enc l))] (.val undef) [((0, 0), .fam (qF E size enc l'))] := by
  intro o ho
  unfold isSto at ho
  split at ho <;> try (cases ho; done)
  rename_i t' x y hop
  have e1 := Nat.eq_of_beq_eq_true ho
  subst e1
  have hx' : stoXY o = [x, y] := by unfold stoXY; rw [hop]
  rw [hx']
  refine ⟨fun z hz => by rw [hop]; simp [Op.operands]; simpa using hz, fun ε ρ R w hx hM => ?_⟩
  simp only [List.map_cons, List.map_nil, SV.dens, SV.den, List.cons.injEq, and_true] at hx
  have hM : Mem (qcC E size (ε 0 0).2 l.length (cellsL enc l) :: R) w := hM
  obtain ⟨w', hr, hm⟩ := Mem.storeQ (P := P) hM 0 rfl t (b + j) (.agg us.toArray) us (by simp [Value.cells]) ht hl h1 h0
  refine res_st (x_store hop (hx.1.trans (by simp [Nat.add_assoc])) (hx.2.trans (by rw [hcs])) hr) ⟨fun _ => (0, undef), by simp only [SV.den], ?_⟩
  rw [hov] at hm
  have e0 : eset ε 1 (fun _ => (0, undef)) 0 0 = ε 0 0 := by rw [eset_ne (by decide)]
  show Mem (qcC E size (eset ε 1 (fun _ => (0, undef)) 0 0).2 l'.length (cellsL enc l') :: R) w'
  rw [e0, hn]
  exact hm
end
end Go.Sx
end
section
namespace Go.Proofs.YtmhbpifhpolghaaGreat
open Go.RowKit Go.Lib Go.Tk Go.Shelf Go.Vc Go.Sx
theorem over_list (xs : List Value) (off : Nat) (us : List Value) : (over xs.toArray off us).toList = xs.take off ++ us ++ xs.drop (off + us.length) := by
  unfold over; simp
theorem over_cells {α : Type} {enc : α → List Value} {size : Nat} (hk : ∀ x, (enc x).length = size) {x y : α} {j : Nat} {us : List Value} (hj : j + us.length ≤ size) (hx : (over (enc y).toArray j us).toList = enc x) :
    ∀ (l : List α) {i : Nat}, l[i]? = some y → (over (cellsL enc l).toArray (i * size + j) us).toList = cellsL enc (l.set i x)
  | [], i, h => by cases h
  | z :: l, 0, h => by
    cases h
    have e : cellsL enc (y :: l) = enc y ++ cellsL enc l := rfl
    have e2 : cellsL enc ((y :: l).set 0 x) = enc x ++ cellsL enc l := rfl
    rw [e, e2, ← hx, over_list, over_list, Nat.zero_mul, Nat.zero_add, List.take_append_of_le_length (by rw [hk]; omega), List.drop_append_of_le_length (by rw [hk]; omega)]
    simp only [List.append_assoc]
  | z :: l, i + 1, h => by
    have ih := over_cells hk hj hx l (i := i) h
    have e : cellsL enc (z :: l) = enc z ++ cellsL enc l := rfl
    have e2 : cellsL enc ((z :: l).set (i + 1) x) = enc z ++ cellsL enc (l.set i x) := rfl
    have hz := hk z
    rw [e, e2, ← ih, over_list, over_list, show (i + 1) * size + j = (enc z).length + (i * size + j) by rw [hz, Nat.add_mul]; omega, List.take_length_add_append, Nat.add_assoc, List.drop_length_add_append]
    simp only [List.append_assoc]
theorem rown_store (l : List (Kid × OwnV)) {i : Nat} {k : Kid} {o o' : OwnV} (h : l[i]? = some (k, o)) : (over (cellsL mineC l).toArray (i * 13 + 3) (ownL o')).toList = cellsL mineC (l.set i (k, o')) :=
  over_cells (enc := mineC) (size := 13) (x := (k, o')) (y := (k, o)) (j := 3) (us := ownL o') (fun _ => rfl) (by show (3 + 10 : Nat) ≤ 13; omega) (by rw [over_list]; rfl) l h
end Go.Proofs.YtmhbpifhpolghaaGreat
end
