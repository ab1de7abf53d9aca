/- Tick3, MoneyOrder, Tick4, Bk1, Tick5, Tick6. -/
import Derived.Test.YtmhbpifhpolghaaGreatM5faae23
import Derived.BigQuiet
import Derived.Deep.QuietTactic
import Derived.BigRegion
import Derived.Deep.DeepCutAuto
set_option maxRecDepth 100000
set_option linter.unusedVariables false
set_option linter.unusedSimpArgs false
set_option linter.unusedSectionVars false
section
namespace Go.Proofs.YtmhbpifhpolghaaGreat
open Go.RowKit Go.Lib Go.Tk
theorem list_ne_get {α : Type} {l m : List α} {k : Nat} (h1 : k < l.length) (h2 : k < m.length) (h : l[k] ≠ m[k]) : l ≠ m := by intro e; subst e; exact h rfl
set_option maxHeartbeats 1000000 in
theorem eqLeg_any (l m : List Leg) (a b : Option Addr) (n n' ca cb : Nat) (w : World) (hn : l.length = n) (hn' : m.length = n') (hx : Row w a (cellsL encLeg l)) (hy : Row w b (cellsL encLeg m)) (hl : n ≤ 9223372036854775807) (hl' : n' ≤ 9223372036854775807) :
    Calls Tryz.prog 149 #[.slice a n ca, .slice b n' cb] w fun e w' => e = .returned (.bool (decide (l = m))) ∧ Below w.heap.size w w' := by
  subst hn
  have HX := hid hx
  have HY := hid hy
  clear hx hy
  by_cases hne : l.length = n'
  · subst hne
    have HM := hid hn'
    clear hn'
    go_enter Tryz.func149, Tryz.ntmps149
    go_wp2
    go_loopw [13] (fun s5 wr => ∃ k : Nat, k ≤ l.length ∧ s5 = .int .i64 k ∧ Aside (∀ j (h1 : j < l.length) (h2 : j < m.length), j < k → l[j] = m[j]) ∧ Aside (Below w.heap.size w wr)) (fun i _ => l.length - (RowKit.intOf i).toNat)
    case atStart => exact ⟨0, Nat.zero_le _, rfl, fun j _ _ hj => absurd hj (Nat.not_lt_zero _), Below.refl _ _⟩
    case round =>
      obtain ⟨k, hk, rfl, hj, B⟩ := hrel
      by_cases hlt : k < l.length
      · have hlt2 : k < m.length := by rw [HM.out]; exact hlt
        obtain ⟨bx, ox, rfl, c1, c2, c3⟩ := leg_at (HX.out.kept B.out) hlt
        obtain ⟨by', oy, rfl, d1, d2, d3⟩ := leg_at (HY.out.kept B.out) hlt2
        by_cases he : l[k] = m[k]
        · have hj2 : Aside (∀ j (h1 : j < l.length) (h2 : j < m.length), j < k + 1 → l[j] = m[j]) := fun j h1 h2 hj' => by
            rcases Nat.lt_or_eq_of_le (Nat.lt_succ_iff.1 hj') with h | h
            · exact hj.out j h1 h2 h
            · subst h; exact he
          rw [← he] at d1 d2 d3
          generalize l[k] = x at *
          clear he hj hlt2
          go_wp2_with fail
          go_quiet (fail)
          go_wp2
          go_roundw
          case measure => simp [RowKit.intOf]; omega
          case rel => exact ⟨k + 1, by omega, by go_num, hj2, bt B.out (drewN_below _ _)⟩
        · have hF := hid (list_ne_get hlt hlt2 he)
          generalize l[k] = x at *
          generalize m[k] = y at *
          obtain ⟨xc, xf, xx⟩ := x
          obtain ⟨yc, yf, yx⟩ := y
          dsimp only at *
          have h3 : (xc ≠ yc) ∨ (xc = yc ∧ xf ≠ yf) ∨ (xc = yc ∧ xf = yf ∧ xx ≠ yx) := by
            by_cases h1 : xc = yc
            · by_cases h2 : xf = yf
              · by_cases h3 : xx = yx
                · subst h1 h2 h3; exact absurd rfl he
                · exact .inr (.inr ⟨h1, h2, h3⟩)
              · exact .inr (.inl ⟨h1, h2⟩)
            · exact .inl h1
          clear he hj
          rcases h3 with h | ⟨rfl, h⟩ | ⟨rfl, rfl, h⟩
          all_goals
            have q1 := beq_eq_false_iff_ne.2 h
            clear h
            go_wp2_with fail
            go_quiet (fail)
            go_wp2
            go_ret
            exact ⟨ret_bool (by rw [decide_eq_false hF.out]), bt B.out (drewN_below _ _)⟩
      · obtain rfl : k = l.length := by omega
        go_wp2
        go_ret
        exact ⟨ret_bool (by rw [decide_eq_true (List.ext_getElem HM.out.symm fun i h1 h2 => hj.out i h1 h2 h1)]), B.out⟩
  · have hF := hid (show l ≠ m by intro e; subst e; exact hne hn')
    have hq : ((l.length : Int) != (n' : Int)) = true := by rw [bne_iff_ne]; omega
    have HN := hid hne
    clear hn' hne
    go_enter Tryz.func149, Tryz.ntmps149
    go_wp2
    go_ret
    exact ⟨ret_bool (by rw [decide_eq_false hF.out]), Below.refl _ _⟩
set_option maxHeartbeats 1000000 in
theorem eqTax_any (l m : List Tax) (a b : Option Addr) (n n' ca cb : Nat) (w : World) (hn : l.length = n) (hn' : m.length = n') (hx : Row w a (cellsL encTax l)) (hy : Row w b (cellsL encTax m)) (hl : n ≤ 9223372036854775807) (hl' : n' ≤ 9223372036854775807) :
    Calls Tryz.prog 150 #[.slice a n ca, .slice b n' cb] w fun e w' => e = .returned (.bool (decide (l = m))) ∧ Below w.heap.size w w' := by
  subst hn
  have HX := hid hx
  have HY := hid hy
  clear hx hy
  by_cases hne : l.length = n'
  · subst hne
    have HM := hid hn'
    clear hn'
    go_enter Tryz.func150, Tryz.ntmps150
    go_wp2
    go_loopw [13] (fun s5 wr => ∃ k : Nat, k ≤ l.length ∧ s5 = .int .i64 k ∧ Aside (∀ j (h1 : j < l.length) (h2 : j < m.length), j < k → l[j] = m[j]) ∧ Aside (Below w.heap.size w wr)) (fun i _ => l.length - (RowKit.intOf i).toNat)
    case atStart => exact ⟨0, Nat.zero_le _, rfl, fun j _ _ hj => absurd hj (Nat.not_lt_zero _), Below.refl _ _⟩
    case round =>
      obtain ⟨k, hk, rfl, hj, B⟩ := hrel
      by_cases hlt : k < l.length
      · have hlt2 : k < m.length := by rw [HM.out]; exact hlt
        obtain ⟨bx, ox, rfl, c1, c2⟩ := tax_at (HX.out.kept B.out) hlt
        obtain ⟨by', oy, rfl, d1, d2⟩ := tax_at (HY.out.kept B.out) hlt2
        by_cases he : l[k] = m[k]
        · have hj2 : Aside (∀ j (h1 : j < l.length) (h2 : j < m.length), j < k + 1 → l[j] = m[j]) := fun j h1 h2 hj' => by
            rcases Nat.lt_or_eq_of_le (Nat.lt_succ_iff.1 hj') with h | h
            · exact hj.out j h1 h2 h
            · subst h; exact he
          rw [← he] at d1 d2
          generalize l[k] = x at *
          clear he hj hlt2
          have q2 := ba_eq x.code
          go_wp2_with fail
          go_quiet (fail)
          go_wp2
          go_roundw
          case measure => simp [RowKit.intOf]; omega
          case rel => exact ⟨k + 1, by omega, by go_num, hj2, bt B.out (drewN_below _ _)⟩
        · have hF := hid (list_ne_get hlt hlt2 he)
          generalize l[k] = x at *
          generalize m[k] = y at *
          obtain ⟨xc, xf⟩ := x
          obtain ⟨yc, yf⟩ := y
          dsimp only at *
          have h3 : (xc ≠ yc) ∨ (xc = yc ∧ xf ≠ yf) := by
            by_cases h1 : xc = yc
            · by_cases h2 : xf = yf
              · subst h1 h2; exact absurd rfl he
              · exact .inr ⟨h1, h2⟩
            · exact .inl h1
          clear he hj
          rcases h3 with h | ⟨rfl, h⟩
          · have q1 := ba_toList_ne h
            clear h
            go_wp2_with fail
            go_quiet (fail)
            go_wp2
            go_ret
            exact ⟨ret_bool (by rw [decide_eq_false hF.out]), bt B.out (drewN_below _ _)⟩
          · have q1 := beq_eq_false_iff_ne.2 h
            have q2 := ba_eq xc
            clear h
            go_wp2_with fail
            go_quiet (fail)
            go_wp2
            go_ret
            exact ⟨ret_bool (by rw [decide_eq_false hF.out]), bt B.out (drewN_below _ _)⟩
      · obtain rfl : k = l.length := by omega
        go_wp2
        go_ret
        exact ⟨ret_bool (by rw [decide_eq_true (List.ext_getElem HM.out.symm fun i h1 h2 => hj.out i h1 h2 h1)]), B.out⟩
  · have hF := hid (show l ≠ m by intro e; subst e; exact hne hn')
    have hq : ((l.length : Int) != (n' : Int)) = true := by rw [bne_iff_ne]; omega
    have HN := hid hne
    clear hn' hne
    go_enter Tryz.func150, Tryz.ntmps150
    go_wp2
    go_ret
    exact ⟨ret_bool (by rw [decide_eq_false hF.out]), Below.refl _ _⟩
theorem sumFrom_nn : ∀ (xs : List Int) (s : Int), mayI s = true → 0 ≤ s → (∀ x ∈ xs, 0 ≤ x) → sumFrom s xs = if mayI (s + xs.sum) then (s + xs.sum, 0) else (0, 7)
  | [], s, hs, _, _ => by simp [sumFrom, hs]
  | x :: r, s, hs, h0, hx => by
    have hx0 := hx x (by simp)
    have hr : ∀ y ∈ r, 0 ≤ y := fun y hy => hx y (by simp [hy])
    have hrs : 0 ≤ r.sum := by
      clear hx
      induction r with
      | nil => simp
      | cons y t ih => have := hr y (by simp); have := ih (fun z hz => hr z (by simp [hz])); simp; omega
    rw [sumFrom]
    have e : s + (x :: r).sum = s + x + r.sum := by simp; omega
    rw [e]
    obtain ⟨s1, s2⟩ := mayI_of hs
    rcases addI_cases s x with ⟨h, _, m2, m3, h1⟩ | ⟨h, h1, hno⟩
    · rw [if_pos h, h1, sumFrom_nn r (s + x) m3 (by omega) hr]
    · rw [if_neg (by rw [h]; decide)]
      have : mayI (s + x + r.sum) = false := by
        rw [← Bool.not_eq_true]; intro hm
        obtain ⟨q1, q2⟩ := mayI_of hm
        have a1 : mayI x = true := by simp [mayI]; omega
        have a2 : mayI (s + x) = true := by simp [mayI]; omega
        rw [hs, a1, a2] at hno; cases hno
      rw [this]; rfl
theorem sum_anyN (a : Option Addr) (n cap : Nat) (xs : List Int) (w : World) (hn : xs.length = n) (hr : Row w a (xs.map (.int .i64))) (hm : xs.length ≤ 9223372036854775807) :
    Calls Tryz.prog 176 #[.slice a n cap] w fun e w' => e = .returned (.tuple #[.int .i64 (sumFrom 0 xs).1, .int .i64 (sumFrom 0 xs).2]) ∧ Below w.heap.size w w' := by
  subst hn; exact sum_any a cap xs w hr hm
structure SaleV where
  name : ByteArray
  legs : List Leg
  fare : Int
  taxes : List Tax
  pen : Int
deriving DecidableEq, Inhabited
structure SaleA where
  la : Option Addr
  lc : Nat
  ta : Option Addr
  tc : Nat
def LegOk (l : Leg) : Prop := (0 ≤ l.c ∧ l.c ≤ 255) ∧ (0 ≤ l.f ∧ l.f ≤ 65535) ∧ (0 ≤ l.x ∧ l.x ≤ 4294967295)
def TaxOk (t : Tax) : Prop := t.code.size ≤ maxLen ∧ (-9223372036854775808 ≤ t.amt ∧ t.amt ≤ 9223372036854775807)
structure SaleOk (s : SaleV) : Prop where
  name : s.name.size ≤ maxLen
  legs : ∀ l ∈ s.legs, LegOk l
  taxes : ∀ t ∈ s.taxes, TaxOk t
  fare : -9223372036854775808 ≤ s.fare ∧ s.fare ≤ 9223372036854775807
  pen : -9223372036854775808 ≤ s.pen ∧ s.pen ≤ 9223372036854775807
  nl : s.legs.length ≤ 1000
  nt : s.taxes.length ≤ 1000
structure SaleAt (w : World) (s : SaleV) (A : SaleA) : Prop where
  legs : Row w A.la (cellsL encLeg s.legs)
  taxes : Row w A.ta (cellsL encTax s.taxes)
  lnil : A.la = none → A.lc = 0
  tnil : A.ta = none → A.tc = 0
theorem SaleAt.kept {w w' : World} {s : SaleV} {A : SaleA} (h : SaleAt w s A) (hb : Below w.heap.size w w') : SaleAt w' s A := ⟨h.legs.kept hb, h.taxes.kept hb, h.lnil, h.tnil⟩
def saleAgg (s : SaleV) (A : SaleA) : Value := .agg #[.string s.name, .slice A.la s.legs.length A.lc, .int .i64 s.fare, .slice A.ta s.taxes.length A.tc, .int .i64 s.pen]
def priceL (s : SaleV) : List Int := s.fare :: s.taxes.map (·.amt)
theorem i64row3 : (Tryz.prog.info? 2).map (fun i => (i.zero, i.size, i.bytes)) = some (some (.int .i64 0), 1, 8) := by kernel_rfl
theorem price_snoc {s : SaleV} {k : Nat} (h : k < s.taxes.length) : (s.fare :: (s.taxes.take (k + 1)).map (·.amt)) = (s.fare :: (s.taxes.take k).map (·.amt)) ++ [s.taxes[k].amt] := by
  rw [List.take_succ_eq_append_getElem h, List.map_append]; rfl
set_option maxHeartbeats 2000000 in
theorem price_anyN (s : SaleV) (A : SaleA) (w : World) (hs : SaleAt w s A) (hnt : s.taxes.length ≤ 17592186044410) :
    Calls Tryz.prog 131 #[saleAgg s A] w fun e w' => e = .returned (.tuple #[.int .i64 (sumFrom 0 (priceL s)).1, .int .i64 (sumFrom 0 (priceL s)).2]) ∧ Below w.heap.size w w' := by
  have hr := hid hs.taxes
  clear hs
  obtain ⟨la, lc, ta, tc⟩ := A
  unfold saleAgg
  dsimp only at hr ⊢
  have HI := hid i64row3
  go_enter Tryz.func131, Tryz.ntmps131
  go_wp2
  go_loopw [4, 6, 13] (fun s4 _ s13 wr => ∃ (k : Nat) (v : Value), k ≤ s.taxes.length ∧ s13 = .int .i64 k ∧ s4 = v ∧ Aside (wr.ownsRow w.heap.size 2 1 v (k + 1) ((s.fare :: (s.taxes.take k).map (·.amt)).map (.int .i64))) ∧ Aside (Below w.heap.size w wr)) (fun _ _ i _ => s.taxes.length - (RowKit.intOf i).toNat)
  case atStart =>
    refine ⟨0, _, Nat.zero_le _, rfl, rfl, ?_, ((Below.refl _ _).alloc (Nat.le_refl _) _).alloc (by simp) _⟩
    have := World.ownsRow_lit (base := w.heap.size) (e := 2) (size := 1) (w.alloc (.cells #[.string s.name, .slice la s.legs.length lc, .int .i64 s.fare, .slice ta s.taxes.length tc, .int .i64 s.pen] 36)) #[.int .i64 s.fare] 1 (by simp) (by unfold maxLen; omega) rfl
    show World.ownsRow _ _ _ _ _ _ _
    simpa using this
  case round =>
    obtain ⟨k, v, hk, rfl, rfl, O1, B1⟩ := hrel
    by_cases hlt : k < s.taxes.length
    · obtain ⟨b, off, rfl, c1, c2⟩ := tax_at (hr.out.kept B1.out) hlt
      have HSN := hid (price_snoc hlt)
      generalize s.taxes[k] = x at *
      have hm1 : k + 1 + 1 ≤ maxLen := by unfold maxLen; omega
      have hm8 : (k + 1 + 1) * 8 ≤ 140737488355328 := by omega
      have hbs := B1.out.size
      go_wp2_with (at_builtin; refine wpList_append_row_at rfl _ _ 40 rfl w.heap.size 2 (.int .i64 0) 1 8 Tryz.underlying40 HI.out rfl (by decide) _ (k + 1) _ rfl (World.ownsRow.alloc (World.ownsRow.alloc O1.out _) _) _ 1 1 [.int .i64 x.amt] rfl (by simp) (row_new (by simp)) rfl (by simp [Value.oneCell']) hm1 hm8 (by simp; omega) ?_; intro v1 w3 ho1 hg1 hat1)
      have hg1' : ((wr.alloc (.cells #[.string x.code, .int .i64 x.amt] 172)).alloc (.cells #[.int .i64 x.amt] 2)).grownBy w3 u4.ownBlock := hg1
      have B3 : Aside (Below w.heap.size w w3) := ((B1.out.alloc B1.out.size _).alloc (by have := B1.out.size; simp; omega) _).grown hg1' (by have := B1.out.size; simp; omega) (fun g e => (World.ownsRow.lt O1.out g e).1)
      have O3 : Aside (w3.ownsRow w.heap.size 2 1 v1 (k + 1 + 1) ((s.fare :: (s.taxes.take (k + 1)).map (·.amt)).map (.int .i64))) := by
        show World.ownsRow _ _ _ _ _ _ _
        rw [HSN.out, List.map_append]; exact ho1
      clear hg1 hg1' hat1 ho1 O1 B1 c1 c2
      go_roundw
      case measure => simp [RowKit.intOf]; omega
      case rel => exact ⟨k + 1, v1, by omega, by go_num, rfl, O3, B3⟩
    · obtain rfl : k = s.taxes.length := by omega
      obtain ⟨a', cap', hv, hr', -⟩ := row_of_owns (show wr.ownsRow w.heap.size 2 1 u4 (s.taxes.length + 1) _ from O1.out)
      subst hv
      have HR := hid (show Row wr a' ((priceL s).map (.int .i64)) by unfold priceL; rw [List.take_length] at hr'; exact hr')
      clear hr' O1
      go_wp2_with fail
      refine (sum_anyN a' (s.taxes.length + 1) cap' (priceL s) _ (by simp [priceL]) HR.out (by simp [priceL]; omega)).mono ?_
      rintro e w2 ⟨rfl, hb2⟩
      go_wp2
      go_ret2
      exact ⟨rfl, bt B1.out hb2⟩
theorem price_any (s : SaleV) (A : SaleA) (w : World) (hs : SaleAt w s A) (ok : SaleOk s) :
    Calls Tryz.prog 131 #[saleAgg s A] w fun e w' => e = .returned (.tuple #[.int .i64 (sumFrom 0 (priceL s)).1, .int .i64 (sumFrom 0 (priceL s)).2]) ∧ Below w.heap.size w w' :=
  price_anyN s A w hs (by have := ok.nt; omega)
end Go.Proofs.YtmhbpifhpolghaaGreat
end
section
namespace Go.Proofs.YtmhbpifhpolghaaGreat
open Go.RowKit Go.Lib Go.Tk Go.Shelf Go.Vc Go.Sx
structure DocV where
  t : Tid
  s : SaleV
  vals : List Int
  frm : Tid
  dst : Tid
  credit : Int
  paid : Int
  back : Int
  kept : Int
  left : Int
deriving DecidableEq, Inhabited
structure BookV where
  self : Int
  n : Int
  docs : List DocV
  owns : OwnsV
  helds : HeldsV
abbrev CF := Nat → Value → Chunk
def bkH (F : CF) (B : BookV) : Heap := [((0, 0), .box none [.val (.int .u8 B.self), .val (.int .i64 B.n), .map 0 1, .map 0 2, .map 0 3]), ((0, 1), .fam F), ((0, 2), ownsF B.owns), ((0, 3), heldsF B.helds)]
def eN (e : Int) : SV := .val (.int .i64 e)
def noneE (b : Bool) : Int := bif b then 0 else 4
def BownsF : Nat := 46
def BheldsF : Nat := 94
def FoundO : Nat := 45
def FoundH : Nat := 93
def OwnF : Nat := 34
def HeldF : Nat := 58
theorem bowns_w (F : CF) (B : BookV) : CallOK Tryz.prog BownsF [.ptr 0 0 0] (bkH F B) [] (.map 0 2) [] := callOK_run 400 [] (by kernel_rfl) (by kernel_rfl)
theorem bhelds_w (F : CF) (B : BookV) : CallOK Tryz.prog BheldsF [.ptr 0 0 0] (bkH F B) [] (.map 0 3) [] := callOK_run 400 [] (by kernel_rfl) (by kernel_rfl)
theorem foundO_w (F : CF) (B : BookV) {k : Kid} (hk : KidOk k) : CallOK Tryz.prog FoundO [.ptr 0 0 0, .fn (.func BownsF) [] [], .agg (kidS k)] (bkH F B) [] (.tup [.agg (ownS ((lkt B.owns k).getD own0)), eN (noneE (lkt B.owns k).isSome)]) [] := by
  have c1 := bowns_w F B
  have c2 := look_owns B.owns hk
  cases hb : lkt B.owns k with
  | none =>
    rw [hb] at c2
    exact callOK_run 400 [hC 4 2 c1, hG 4 4 c2] (by kernel_rfl) (by kernel_rfl)
  | some o =>
    rw [hb] at c2
    exact callOK_run 400 [hC 4 2 c1, hG 4 4 c2] (by kernel_rfl) (by kernel_rfl)
theorem own_w (F : CF) (B : BookV) {k : Kid} (hk : KidOk k) : CallOK Tryz.prog OwnF [.ptr 0 0 0, .agg (kidS k)] (bkH F B) [] (.tup [.agg (ownS ((lkt B.owns k).getD own0)), eN (noneE (lkt B.owns k).isSome)]) [] := by
  have c1 := foundO_w F B hk
  exact callOK_run 400 [hC 1 2 c1] (by kernel_rfl) (by kernel_rfl)
theorem foundH_w (F : CF) (B : BookV) {k : Kid} (hk : KidOk k) : CallOK Tryz.prog FoundH [.ptr 0 0 0, .fn (.func BheldsF) [] [], .agg (kidS k)] (bkH F B) [] (.tup [.agg (heldS ((lkt B.helds k).getD held0)), eN (noneE (lkt B.helds k).isSome)]) [] := by
  have c1 := bhelds_w F B
  have c2 := look_helds B.helds hk
  cases hb : lkt B.helds k with
  | none =>
    rw [hb] at c2
    exact callOK_run 400 [hC 4 2 c1, hG 4 4 c2] (by kernel_rfl) (by kernel_rfl)
  | some o =>
    rw [hb] at c2
    exact callOK_run 400 [hC 4 2 c1, hG 4 4 c2] (by kernel_rfl) (by kernel_rfl)
theorem held_w (F : CF) (B : BookV) {k : Kid} (hk : KidOk k) : CallOK Tryz.prog HeldF [.ptr 0 0 0, .agg (kidS k)] (bkH F B) [] (.tup [.agg (heldS ((lkt B.helds k).getD held0)), eN (noneE (lkt B.helds k).isSome)]) [] := by
  have c1 := foundH_w F B hk
  exact callOK_run 400 [hC 1 2 c1] (by kernel_rfl) (by kernel_rfl)
def SelfF : Nat := 51
def CarrF : Nat := 52
theorem self_w (F : CF) (B : BookV) : CallOK Tryz.prog SelfF [.ptr 0 0 0] (bkH F B) [] (.val (.int .u8 B.self)) [] := callOK_run 400 [] (by kernel_rfl) (by kernel_rfl)
theorem carr_w (F : CF) (B : BookV) : CallOK Tryz.prog CarrF [.ptr 0 0 0] (bkH F B) [] (.val (.int .i64 B.n)) [] := callOK_run 400 [] (by kernel_rfl) (by kernel_rfl)
def BookV.setO (B : BookV) (k : Kid) (o : OwnV) : BookV := bif (lkt B.owns k).isSome then { B with owns := putt B.owns k o } else B
theorem setO_some {B : BookV} {k : Kid} {o x : OwnV} (h : lkt B.owns k = some x) : B.setO k o = { B with owns := putt B.owns k o } := by unfold BookV.setO; rw [h]; rfl
theorem setO_none {B : BookV} {k : Kid} {o : OwnV} (h : lkt B.owns k = none) : B.setO k o = B := by unfold BookV.setO; rw [h]; rfl
def SetOwnF : Nat := 16
theorem setOwn_w (F : CF) (B : BookV) {k : Kid} (hk : KidOk k) (o : OwnV) : CallOK Tryz.prog SetOwnF [.ptr 0 0 0, .agg (kidS k), .agg (ownS o)] [] (bkH F B) (eN (noneE (lkt B.owns k).isSome)) (bkH F (B.setO k o)) := by
  have c1 := foundO_w F B hk
  have c2 := upd_owns B.owns hk o (List.Perm.refl _)
  cases hb : lkt B.owns k with
  | none =>
    rw [setO_none hb]
    rw [hb] at c1
    exact callOK_run 400 [hC 1 2 c1] (by kernel_rfl) (by kernel_rfl)
  | some x =>
    rw [setO_some hb]
    rw [hb] at c1
    exact callOK_run 400 [hC 1 2 c1, hG 4 6 c2] (by kernel_rfl) (by kernel_rfl)
def BookV.badK (B : BookV) (k : Kid) : Bool := decide (k.t.c = B.self) || (decide (B.n ≤ k.t.c) || (decide (k.t.r < 1) || (decide (9999999999 < k.t.r) || decide (4 ≤ k.i))))
def BookV.setHE (B : BookV) (k : Kid) : Int := bif B.badK k then 1 else bif !(lkt B.helds k).isSome && decide (64 ≤ B.helds.length) then 3 else 0
def BookV.setH (B : BookV) (k : Kid) (h : HeldV) : BookV := bif decide (B.setHE k = 0) then { B with helds := putt B.helds k h } else B
def SetHeldF : Nat := 18
theorem setHeld_w (F : CF) (B : BookV) {k : Kid} (hk : KidOk k) (h : HeldV) : CallOK Tryz.prog SetHeldF [.ptr 0 0 0, .agg (kidS k), .agg (heldS h)] [] (bkH F B) (eN (B.setHE k)) (bkH F (B.setH k h)) := by
  have c2 := look_helds B.helds hk
  have c3 := upd_helds B.helds hk h (List.Perm.refl _)
  have c4 := len_helds B.helds
  have w1 : IntKind.i64.wrap k.t.c = k.t.c := wr_i64 (by have := hk.1.1; omega)
  have no : B.badK k = true → B.setHE k = 1 := fun e => by unfold BookV.setHE; rw [e]; rfl
  have no2 : B.setHE k ≠ 0 → B.setH k h = B := fun e => by unfold BookV.setH; rw [decide_eq_false e]; rfl
  have ok2 : B.setHE k = 0 → B.setH k h = { B with helds := putt B.helds k h } := fun e => by unfold BookV.setH; rw [decide_eq_true e]; rfl
  rcases Bool.eq_false_or_eq_true (decide (k.t.c = B.self)) with h1 | h1
  · have e := no (by unfold BookV.badK; rw [h1]; rfl)
    rw [no2 (by rw [e]; decide), e]
    exact callOK_run 400 [hB 4 6 _ _ h1] (by kernel_rfl) (by kernel_rfl)
  rcases Bool.eq_false_or_eq_true (decide (B.n ≤ k.t.c)) with h2 | h2
  · have e := no (by unfold BookV.badK; rw [h1, h2]; rfl)
    rw [no2 (by rw [e]; decide), e]
    exact callOK_run 400 [hB 4 6 _ _ h1, hI 4 10 IntKind.i64 _ _ w1, hB 4 15 _ _ h2] (by kernel_rfl) (by kernel_rfl)
  rcases Bool.eq_false_or_eq_true (decide (k.t.r < 1)) with h3 | h3
  · have e := no (by unfold BookV.badK; rw [h1, h2, h3]; rfl)
    rw [no2 (by rw [e]; decide), e]
    exact callOK_run 400 [hB 4 6 _ _ h1, hI 4 10 IntKind.i64 _ _ w1, hB 4 15 _ _ h2, hB 4 20 _ _ h3] (by kernel_rfl) (by kernel_rfl)
  rcases Bool.eq_false_or_eq_true (decide (9999999999 < k.t.r)) with h4 | h4
  · have e := no (by unfold BookV.badK; rw [h1, h2, h3, h4]; rfl)
    rw [no2 (by rw [e]; decide), e]
    exact callOK_run 400 [hB 4 6 _ _ h1, hI 4 10 IntKind.i64 _ _ w1, hB 4 15 _ _ h2, hB 4 20 _ _ h3, hB 4 25 _ _ h4] (by kernel_rfl) (by kernel_rfl)
  rcases Bool.eq_false_or_eq_true (decide (4 ≤ k.i)) with h5 | h5
  · have e := no (by unfold BookV.badK; rw [h1, h2, h3, h4, h5]; rfl)
    rw [no2 (by rw [e]; decide), e]
    exact callOK_run 400 [hB 4 6 _ _ h1, hI 4 10 IntKind.i64 _ _ w1, hB 4 15 _ _ h2, hB 4 20 _ _ h3, hB 4 25 _ _ h4, hB 4 30 _ _ h5] (by kernel_rfl) (by kernel_rfl)
  have hb : B.badK k = false := by unfold BookV.badK; rw [h1, h2, h3, h4, h5]; rfl
  cases hl : lkt B.helds k with
  | some x =>
    have e : B.setHE k = 0 := by unfold BookV.setHE; rw [hb, hl]; rfl
    rw [ok2 e, e]
    rw [hl] at c2
    exact callOK_run 400 [hB 4 6 _ _ h1, hI 4 10 IntKind.i64 _ _ w1, hB 4 15 _ _ h2, hB 4 20 _ _ h3, hB 4 25 _ _ h4, hB 4 30 _ _ h5, hG 6 5 c2, hG 9 6 c3] (by kernel_rfl) (by kernel_rfl)
  | none =>
    rw [hl] at c2
    rcases Bool.eq_false_or_eq_true (decide (64 ≤ B.helds.length)) with h6 | h6
    · have e : B.setHE k = 3 := by unfold BookV.setHE; rw [hb, hl, h6]; rfl
      have h6' : decide ((64 : Int) ≤ (B.helds.length : Int)) = true := by simp only [decide_eq_true_eq] at h6 ⊢; omega
      rw [no2 (by rw [e]; decide), e]
      exact callOK_run 400 [hB 4 6 _ _ h1, hI 4 10 IntKind.i64 _ _ w1, hB 4 15 _ _ h2, hB 4 20 _ _ h3, hB 4 25 _ _ h4, hB 4 30 _ _ h5, hG 6 5 c2, hG 7 7 c4, hB 7 8 _ _ h6'] (by kernel_rfl) (by kernel_rfl)
    · have e : B.setHE k = 0 := by unfold BookV.setHE; rw [hb, hl, h6]; rfl
      have h6' : decide ((64 : Int) ≤ (B.helds.length : Int)) = false := by simp only [decide_eq_false_iff_not] at h6 ⊢; omega
      rw [ok2 e, e]
      exact callOK_run 400 [hB 4 6 _ _ h1, hI 4 10 IntKind.i64 _ _ w1, hB 4 15 _ _ h2, hB 4 20 _ _ h3, hB 4 25 _ _ h4, hB 4 30 _ _ h5, hG 6 5 c2, hG 7 7 c4, hB 7 8 _ _ h6', hG 9 6 c3] (by kernel_rfl) (by kernel_rfl)
end Go.Proofs.YtmhbpifhpolghaaGreat
end
section
namespace Go.Proofs.YtmhbpifhpolghaaGreat
open Go.RowKit Go.Lib Go.Tk
structure BoxS (w : World) (b : Nat) (s : SaleV) (A : SaleA) : Prop where
  c0 : w.cell? ⟨b, 0, none⟩ = some (.string s.name)
  c1 : w.cell? ⟨b, 1, none⟩ = some (.slice A.la s.legs.length A.lc)
  c2 : w.cell? ⟨b, 2, none⟩ = some (.int .i64 s.fare)
  c3 : w.cell? ⟨b, 3, none⟩ = some (.slice A.ta s.taxes.length A.tc)
  c4 : w.cell? ⟨b, 4, none⟩ = some (.int .i64 s.pen)
theorem cell_kept {w w' : World} (hb : Below w.heap.size w w') {b o : Nat} {v : Value} (h : w.cell? ⟨b, o, none⟩ = some v) : w'.cell? ⟨b, o, none⟩ = some v := by
  rw [hb.cell (p := ⟨b, o, none⟩) (lt_of_cell h)]; exact h
theorem BoxS.kept {w w' : World} {b : Nat} {s : SaleV} {A : SaleA} (h : BoxS w b s A) (hb : Below w.heap.size w w') : BoxS w' b s A :=
  ⟨cell_kept hb h.c0, cell_kept hb h.c1, cell_kept hb h.c2, cell_kept hb h.c3, cell_kept hb h.c4⟩
def must1 (s : SaleV) : Bool := decide (1 ≤ s.name.size) && decide (s.name.size ≤ 32) && lettersB [32, 47] s.name.data.toList
def must2 (s : SaleV) : Bool := decide (1 ≤ s.legs.length) && decide (s.legs.length ≤ 4) && decide (s.taxes.length ≤ 4)
def must3 (s : SaleV) : Bool := [s.fare, s.pen].all amtB
def must4 (s : SaleV) (n : Int) : Bool := !s.legs.any (legBad n)
def must5 (s : SaleV) : Bool := !s.taxes.any taxBad
def shapeB (s : SaleV) (n : Int) : Bool := must1 s && must2 s && must3 s && must4 s n && must5 s
def checkE (s : SaleV) (n : Int) : Int := if n < 2 ∨ 8 < n then 1 else if shapeB s n then (sumFrom 0 (priceL s)).2 else 90
set_option maxHeartbeats 1000000 in
theorem must1_any (s : SaleV) (A : SaleA) (b : Nat) (w : World) (h : BoxS w b s A) (ok : SaleOk s) :
    Calls Tryz.prog 120 #[.pointer (some ⟨b, 0, none⟩)] w fun e w' => e = .returned (.bool (must1 s)) ∧ Below w.heap.size w w' := by
  obtain ⟨c0, -, -, -, -⟩ := h
  have hn := ok.name
  clear ok
  have hn' := hn
  unfold maxLen at hn'
  by_cases h1 : 1 ≤ s.name.size
  · by_cases h2 : s.name.size ≤ 32
    · have F := hid (show must1 s = lettersB [32, 47] s.name.data.toList by simp [must1, h1, h2])
      have d1 : decide ((s.name.size : Int) ≥ 1) = true := decide_eq_true (by omega)
      have d2 : decide ((s.name.size : Int) ≤ 32) = true := decide_eq_true (by omega)
      generalize s.name = nm at *
      go_enter Tryz.func120, Tryz.ntmps120
      go_wp2_with fail
      refine (letters_any nm _ _ hn).mono ?_
      rintro e w' ⟨rfl, rfl⟩
      go_wp2
      go_ret
      exact ⟨ret_bool F.out.symm, Below.refl _ _⟩
    · have F := hid (show must1 s = false by simp [must1, h2])
      have d1 : decide ((s.name.size : Int) ≥ 1) = true := decide_eq_true (by omega)
      have d2 : decide ((s.name.size : Int) ≤ 32) = false := decide_eq_false (by omega)
      generalize s.name = nm at *
      go_enter Tryz.func120, Tryz.ntmps120
      go_wp2
      go_ret
      exact ⟨ret_bool F.out.symm, Below.refl _ _⟩
  · have F := hid (show must1 s = false by unfold must1; rw [decide_eq_false h1]; rfl)
    have d1 : decide ((s.name.size : Int) ≥ 1) = false := decide_eq_false (by omega)
    generalize s.name = nm at *
    go_enter Tryz.func120, Tryz.ntmps120
    go_wp2
    go_ret
    exact ⟨ret_bool F.out.symm, Below.refl _ _⟩
set_option maxHeartbeats 1000000 in
theorem must2_any (s : SaleV) (A : SaleA) (b : Nat) (w : World) (h : BoxS w b s A) (ok : SaleOk s) :
    Calls Tryz.prog 122 #[.pointer (some ⟨b, 0, none⟩)] w fun e w' => e = .returned (.bool (must2 s)) ∧ Below w.heap.size w w' := by
  obtain ⟨-, c1, -, c3, -⟩ := h
  have h5 := ok.nl
  have h6 := ok.nt
  obtain ⟨nl, hnl⟩ : ∃ k, k = s.legs.length := ⟨_, rfl⟩
  obtain ⟨nt, hnt⟩ : ∃ k, k = s.taxes.length := ⟨_, rfl⟩
  have hm : must2 s = (decide (1 ≤ nl) && decide (nl ≤ 4) && decide (nt ≤ 4)) := by unfold must2; rw [← hnl, ← hnt]
  rw [← hnl] at c1 h5
  rw [← hnt] at c3 h6
  clear hnl hnt ok
  by_cases h1 : 1 ≤ nl
  · have d1 : decide ((nl : Int) ≥ 1) = true := decide_eq_true (by omega)
    by_cases h2 : nl ≤ 4
    · have d2 : decide ((nl : Int) ≤ 4) = true := decide_eq_true (by omega)
      by_cases h3 : nt ≤ 4
      · have d3 : decide ((nt : Int) ≤ 4) = true := decide_eq_true (by omega)
        have F := hid (show must2 s = true by rw [hm]; simp [h1, h2, h3])
        clear hm
        go_enter Tryz.func122, Tryz.ntmps122
        go_wp2
        go_ret
        exact ⟨ret_bool F.out.symm, Below.refl _ _⟩
      · have d3 : decide ((nt : Int) ≤ 4) = false := decide_eq_false (by omega)
        have F := hid (show must2 s = false by rw [hm]; simp [h3])
        clear hm
        go_enter Tryz.func122, Tryz.ntmps122
        go_wp2
        go_ret
        exact ⟨ret_bool F.out.symm, Below.refl _ _⟩
    · have d2 : decide ((nl : Int) ≤ 4) = false := decide_eq_false (by omega)
      have F := hid (show must2 s = false by rw [hm]; simp [h2])
      clear hm
      go_enter Tryz.func122, Tryz.ntmps122
      go_wp2
      go_ret
      exact ⟨ret_bool F.out.symm, Below.refl _ _⟩
  · have d1 : decide ((nl : Int) ≥ 1) = false := decide_eq_false (by omega)
    have F := hid (show must2 s = false by rw [hm, decide_eq_false h1]; rfl)
    clear hm
    go_enter Tryz.func122, Tryz.ntmps122
    go_wp2
    go_ret
    exact ⟨ret_bool F.out.symm, Below.refl _ _⟩
set_option maxHeartbeats 1000000 in
theorem must3_any (s : SaleV) (A : SaleA) (b : Nat) (w : World) (h : BoxS w b s A) :
    Calls Tryz.prog 123 #[.pointer (some ⟨b, 0, none⟩)] w fun e w' => e = .returned (.bool (must3 s)) ∧ Below w.heap.size w w' := by
  obtain ⟨-, -, c2, -, c4⟩ := h
  have F := hid (show must3 s = [s.fare, s.pen].all amtB from rfl)
  generalize s.fare = x at *
  generalize s.pen = y at *
  go_enter Tryz.func123, Tryz.ntmps123
  go_wp2_with fail
  refine (amounts_any _ 2 _ [x, y] _ rfl (row_new (vs := [.int .i64 x, .int .i64 y]) (by simp)) (by omega)).mono ?_
  rintro e w2 ⟨rfl, hb⟩
  generalize [x, y].all amtB = q at *
  go_wp2
  go_ret
  exact ⟨ret_bool F.out.symm, ((Below.refl _ _).alloc (Nat.le_refl _) _).trans (hb.mono (by simp))⟩
set_option maxHeartbeats 1000000 in
theorem must4_any (s : SaleV) (A : SaleA) (n : Int) (b nb : Nat) (w : World) (h : BoxS w b s A) (hs : SaleAt w s A) (ok : SaleOk s) (hc : w.cell? ⟨nb, 0, none⟩ = some (.int .i64 n)) :
    Calls Tryz.prog 125 #[.pointer (some ⟨b, 0, none⟩), .pointer (some ⟨nb, 0, none⟩)] w fun e w' => e = .returned (.bool (must4 s n)) ∧ Below w.heap.size w w' := by
  obtain ⟨-, c1, -, -, -⟩ := h
  have hnl := ok.nl
  have KEY := hid (hasLeg_any n nb s.legs A.la _ A.lc w rfl (by omega) hs.legs (fun x hx => (ok.legs x hx).1) hc)
  have F := hid (show must4 s n = !s.legs.any (legBad n) from rfl)
  clear hs ok
  go_enter Tryz.func125, Tryz.ntmps125
  go_wp2_with fail
  refine KEY.out.mono ?_
  rintro e w2 ⟨rfl, hb⟩
  generalize s.legs.any (legBad n) = q at *
  go_wp2
  go_ret
  exact ⟨ret_bool F.out.symm, hb⟩
set_option maxHeartbeats 1000000 in
theorem must5_any (s : SaleV) (A : SaleA) (b : Nat) (w : World) (h : BoxS w b s A) (hs : SaleAt w s A) (ok : SaleOk s) :
    Calls Tryz.prog 128 #[.pointer (some ⟨b, 0, none⟩)] w fun e w' => e = .returned (.bool (must5 s)) ∧ Below w.heap.size w w' := by
  obtain ⟨-, -, -, c3, -⟩ := h
  have hnl := ok.nt
  have KEY := hid (hasTax_any s.taxes A.ta _ A.tc w rfl (by omega) hs.taxes (fun x hx => (ok.taxes x hx).1))
  have F := hid (show must5 s = !s.taxes.any taxBad from rfl)
  clear hs ok
  go_enter Tryz.func128, Tryz.ntmps128
  go_wp2_with fail
  refine KEY.out.mono ?_
  rintro e w2 ⟨rfl, hb⟩
  generalize s.taxes.any taxBad = q at *
  go_wp2
  go_ret
  exact ⟨ret_bool F.out.symm, hb⟩
theorem boxS_new (w : World) (s : SaleV) (la : Option Addr) (lc : Nat) (ta : Option Addr) (tc : Nat) (E : TypeId) : BoxS (w.alloc (.cells #[.string s.name, .slice la s.legs.length lc, .int .i64 s.fare, .slice ta s.taxes.length tc, .int .i64 s.pen] E)) w.heap.size s ⟨la, lc, ta, tc⟩ :=
  ⟨by rw [cell_new rfl]; rfl, by rw [cell_new rfl]; rfl, by rw [cell_new rfl]; rfl, by rw [cell_new rfl]; rfl, by rw [cell_new rfl]; rfl⟩
structure FunsAt (w : World) (b : Nat) : Prop where
  f1 : w.cell? ⟨b + 2, 0, none⟩ = some (.func (.func 120) #[] #[.pointer (some ⟨b, 0, none⟩)])
  f2 : w.cell? ⟨b + 2, 1, none⟩ = some (.func (.func 122) #[] #[.pointer (some ⟨b, 0, none⟩)])
  f3 : w.cell? ⟨b + 2, 2, none⟩ = some (.func (.func 123) #[] #[.pointer (some ⟨b, 0, none⟩)])
  f4 : w.cell? ⟨b + 2, 3, none⟩ = some (.func (.func 125) #[] #[.pointer (some ⟨b, 0, none⟩), .pointer (some ⟨b + 1, 0, none⟩)])
  f5 : w.cell? ⟨b + 2, 4, none⟩ = some (.func (.func 128) #[] #[.pointer (some ⟨b, 0, none⟩)])
theorem FunsAt.kept {w w' : World} {b : Nat} (h : FunsAt w b) (hb : Below w.heap.size w w') : FunsAt w' b :=
  ⟨cell_kept hb h.f1, cell_kept hb h.f2, cell_kept hb h.f3, cell_kept hb h.f4, cell_kept hb h.f5⟩
set_option maxHeartbeats 4000000 in
theorem tcheck_any (s : SaleV) (A : SaleA) (n : Int) (w : World) (hs : SaleAt w s A) (ok : SaleOk s) :
    Calls Tryz.prog 80 #[saleAgg s A, .int .i64 n] w fun e w' => e = .returned (.int .i64 (checkE s n)) ∧ Below w.heap.size w w' := by
  obtain ⟨la, lc, ta, tc⟩ := A
  have HS : Aside (SaleAt w s ⟨la, lc, ta, tc⟩) := hs
  have OK : Aside (SaleOk s) := ok
  clear hs ok
  unfold saleAgg
  dsimp only
  by_cases h1 : n < 2
  · have F := hid (show checkE s n = 1 by unfold checkE; rw [if_pos (.inl h1)])
    have d1 : decide (n < 2) = true := decide_eq_true h1
    go_enter Tryz.func80, Tryz.ntmps80
    go_wp2
    go_ret
    exact ⟨ret_i F.out.symm, ((Below.refl _ _).alloc (Nat.le_refl _) _).alloc (by simp) _⟩
  have d1 : decide (n < 2) = false := decide_eq_false h1
  by_cases h2 : n > 8
  · have F := hid (show checkE s n = 1 by unfold checkE; rw [if_pos (.inr h2)])
    have d2 : decide (n > 8) = true := decide_eq_true h2
    go_enter Tryz.func80, Tryz.ntmps80
    go_wp2
    go_ret
    exact ⟨ret_i F.out.symm, ((Below.refl _ _).alloc (Nat.le_refl _) _).alloc (by simp) _⟩
  have d2 : decide (n > 8) = false := decide_eq_false h2
  have FN := hid (show checkE s n = if shapeB s n then (sumFrom 0 (priceL s)).2 else 90 by unfold checkE; rw [if_neg (by omega)])
  clear h1 h2
  go_enter Tryz.func80, Tryz.ntmps80
  go_wp2
  have hbx : BoxS (((w.alloc (.cells #[.string s.name, .slice la s.legs.length lc, .int .i64 s.fare, .slice ta s.taxes.length tc, .int .i64 s.pen] 36)).alloc (.cells #[.int .i64 n] 3)).alloc (.cells #[.func (.func 120) #[] #[.pointer (some ⟨w.heap.size, 0, none⟩)], .func (.func 122) #[] #[.pointer (some ⟨w.heap.size, 0, none⟩)], .func (.func 123) #[] #[.pointer (some ⟨w.heap.size, 0, none⟩)], .func (.func 125) #[] #[.pointer (some ⟨w.heap.size, 0, none⟩), .pointer (some ⟨w.heap.size + 1, 0, none⟩)], .func (.func 128) #[] #[.pointer (some ⟨w.heap.size, 0, none⟩)]] 24)) w.heap.size s ⟨la, lc, ta, tc⟩ := ((boxS_new w s la lc ta tc _).kept (below_alloc _ _)).kept (below_alloc _ _)
  have hcn : (((w.alloc (.cells #[.string s.name, .slice la s.legs.length lc, .int .i64 s.fare, .slice ta s.taxes.length tc, .int .i64 s.pen] 36)).alloc (.cells #[.int .i64 n] 3)).alloc (.cells #[.func (.func 120) #[] #[.pointer (some ⟨w.heap.size, 0, none⟩)], .func (.func 122) #[] #[.pointer (some ⟨w.heap.size, 0, none⟩)], .func (.func 123) #[] #[.pointer (some ⟨w.heap.size, 0, none⟩)], .func (.func 125) #[] #[.pointer (some ⟨w.heap.size, 0, none⟩), .pointer (some ⟨w.heap.size + 1, 0, none⟩)], .func (.func 128) #[] #[.pointer (some ⟨w.heap.size, 0, none⟩)]] 24)).cell? ⟨w.heap.size + 1, 0, none⟩ = some (.int .i64 n) := cell_kept (below_alloc _ _) (by rw [cell_new (by simp)]; rfl)
  have hf : FunsAt (((w.alloc (.cells #[.string s.name, .slice la s.legs.length lc, .int .i64 s.fare, .slice ta s.taxes.length tc, .int .i64 s.pen] 36)).alloc (.cells #[.int .i64 n] 3)).alloc (.cells #[.func (.func 120) #[] #[.pointer (some ⟨w.heap.size, 0, none⟩)], .func (.func 122) #[] #[.pointer (some ⟨w.heap.size, 0, none⟩)], .func (.func 123) #[] #[.pointer (some ⟨w.heap.size, 0, none⟩)], .func (.func 125) #[] #[.pointer (some ⟨w.heap.size, 0, none⟩), .pointer (some ⟨w.heap.size + 1, 0, none⟩)], .func (.func 128) #[] #[.pointer (some ⟨w.heap.size, 0, none⟩)]] 24)) w.heap.size := ⟨by rw [cell_new (by simp)]; rfl, by rw [cell_new (by simp)]; rfl, by rw [cell_new (by simp)]; rfl, by rw [cell_new (by simp)]; rfl, by rw [cell_new (by simp)]; rfl⟩
  have hb : Below w.heap.size w (((w.alloc (.cells #[.string s.name, .slice la s.legs.length lc, .int .i64 s.fare, .slice ta s.taxes.length tc, .int .i64 s.pen] 36)).alloc (.cells #[.int .i64 n] 3)).alloc (.cells #[.func (.func 120) #[] #[.pointer (some ⟨w.heap.size, 0, none⟩)], .func (.func 122) #[] #[.pointer (some ⟨w.heap.size, 0, none⟩)], .func (.func 123) #[] #[.pointer (some ⟨w.heap.size, 0, none⟩)], .func (.func 125) #[] #[.pointer (some ⟨w.heap.size, 0, none⟩), .pointer (some ⟨w.heap.size + 1, 0, none⟩)], .func (.func 128) #[] #[.pointer (some ⟨w.heap.size, 0, none⟩)]] 24)) := (((Below.refl _ _).alloc (Nat.le_refl _) _).alloc (by simp) _).alloc (by simp; omega) _
  generalize ((w.alloc (.cells #[.string s.name, .slice la s.legs.length lc, .int .i64 s.fare, .slice ta s.taxes.length tc, .int .i64 s.pen] 36)).alloc (.cells #[.int .i64 n] 3)).alloc (.cells #[.func (.func 120) #[] #[.pointer (some ⟨w.heap.size, 0, none⟩)], .func (.func 122) #[] #[.pointer (some ⟨w.heap.size, 0, none⟩)], .func (.func 123) #[] #[.pointer (some ⟨w.heap.size, 0, none⟩)], .func (.func 125) #[] #[.pointer (some ⟨w.heap.size, 0, none⟩), .pointer (some ⟨w.heap.size + 1, 0, none⟩)], .func (.func 128) #[] #[.pointer (some ⟨w.heap.size, 0, none⟩)]] 24) = wb at *
  have BX : Aside (BoxS wb w.heap.size s ⟨la, lc, ta, tc⟩) := hbx
  have CN : Aside (wb.cell? ⟨w.heap.size + 1, 0, none⟩ = some (.int .i64 n)) := hcn
  have FU : Aside (FunsAt wb w.heap.size) := hf
  have B0 : Aside (Below w.heap.size w wb) := hb
  clear hbx hcn hf hb
  refine wp_loop_rounds 6 ?_
  have HSb : Aside (SaleAt wb s ⟨la, lc, ta, tc⟩) := HS.out.kept B0.out
  rw [rounds_succ]
  have c0 := FU.out.f1
  go_wp2_with fail
  refine (must1_any s _ _ _ BX.out OK.out).mono ?_
  rintro e w1 ⟨rfl, hb1⟩
  replace BX : Aside (BoxS w1 w.heap.size s ⟨la, lc, ta, tc⟩) := BX.out.kept hb1
  replace FU : Aside (FunsAt w1 w.heap.size) := FU.out.kept hb1
  replace HSb : Aside (SaleAt w1 s ⟨la, lc, ta, tc⟩) := HSb.out.kept hb1
  replace CN : Aside (w1.cell? ⟨w.heap.size + 1, 0, none⟩ = some (.int .i64 n)) := cell_kept hb1 CN.out
  replace B0 : Aside (Below w.heap.size w w1) := bt B0.out hb1
  clear hb1 c0
  cases hm1 : must1 s with
  | false =>
    have F := hid (show checkE s n = 90 by rw [FN.out, if_neg (by simp [shapeB, hm1])])
    go_wp2
    go_ret
    exact ⟨ret_i F.out.symm, B0.out⟩
  | true =>
    have M1 := hid hm1
    clear hm1
    go_wp2
    rw [rounds_succ]
    have c0 := FU.out.f2
    go_wp2_with fail
    refine (must2_any s _ _ _ BX.out OK.out).mono ?_
    rintro e w2 ⟨rfl, hb2⟩
    replace BX : Aside (BoxS w2 w.heap.size s ⟨la, lc, ta, tc⟩) := BX.out.kept hb2
    replace FU : Aside (FunsAt w2 w.heap.size) := FU.out.kept hb2
    replace HSb : Aside (SaleAt w2 s ⟨la, lc, ta, tc⟩) := HSb.out.kept hb2
    replace CN : Aside (w2.cell? ⟨w.heap.size + 1, 0, none⟩ = some (.int .i64 n)) := cell_kept hb2 CN.out
    replace B0 : Aside (Below w.heap.size w w2) := bt B0.out hb2
    clear hb2 c0
    cases hm2 : must2 s with
    | false =>
      have F := hid (show checkE s n = 90 by rw [FN.out, if_neg (by simp [shapeB, hm2])])
      go_wp2
      go_ret
      exact ⟨ret_i F.out.symm, B0.out⟩
    | true =>
      have M2 := hid hm2
      clear hm2
      go_wp2
      rw [rounds_succ]
      have c0 := FU.out.f3
      go_wp2_with fail
      refine (must3_any s _ _ _ BX.out).mono ?_
      rintro e w3 ⟨rfl, hb3⟩
      replace BX : Aside (BoxS w3 w.heap.size s ⟨la, lc, ta, tc⟩) := BX.out.kept hb3
      replace FU : Aside (FunsAt w3 w.heap.size) := FU.out.kept hb3
      replace HSb : Aside (SaleAt w3 s ⟨la, lc, ta, tc⟩) := HSb.out.kept hb3
      replace CN : Aside (w3.cell? ⟨w.heap.size + 1, 0, none⟩ = some (.int .i64 n)) := cell_kept hb3 CN.out
      replace B0 : Aside (Below w.heap.size w w3) := bt B0.out hb3
      clear hb3 c0
      cases hm3 : must3 s with
      | false =>
        have F := hid (show checkE s n = 90 by rw [FN.out, if_neg (by simp [shapeB, hm3])])
        go_wp2
        go_ret
        exact ⟨ret_i F.out.symm, B0.out⟩
      | true =>
        have M3 := hid hm3
        clear hm3
        go_wp2
        rw [rounds_succ]
        have c0 := FU.out.f4
        go_wp2_with fail
        refine (must4_any s _ n _ _ _ BX.out HSb.out OK.out CN.out).mono ?_
        rintro e w4 ⟨rfl, hb4⟩
        replace BX : Aside (BoxS w4 w.heap.size s ⟨la, lc, ta, tc⟩) := BX.out.kept hb4
        replace FU : Aside (FunsAt w4 w.heap.size) := FU.out.kept hb4
        replace HSb : Aside (SaleAt w4 s ⟨la, lc, ta, tc⟩) := HSb.out.kept hb4
        replace CN : Aside (w4.cell? ⟨w.heap.size + 1, 0, none⟩ = some (.int .i64 n)) := cell_kept hb4 CN.out
        replace B0 : Aside (Below w.heap.size w w4) := bt B0.out hb4
        clear hb4 c0
        cases hm4 : must4 s n with
        | false =>
          have F := hid (show checkE s n = 90 by rw [FN.out, if_neg (by simp [shapeB, hm4])])
          go_wp2
          go_ret
          exact ⟨ret_i F.out.symm, B0.out⟩
        | true =>
          have M4 := hid hm4
          clear hm4
          go_wp2
          rw [rounds_succ]
          have c0 := FU.out.f5
          go_wp2_with fail
          refine (must5_any s _ _ _ BX.out HSb.out OK.out).mono ?_
          rintro e w5 ⟨rfl, hb5⟩
          replace BX : Aside (BoxS w5 w.heap.size s ⟨la, lc, ta, tc⟩) := BX.out.kept hb5
          replace FU : Aside (FunsAt w5 w.heap.size) := FU.out.kept hb5
          replace HSb : Aside (SaleAt w5 s ⟨la, lc, ta, tc⟩) := HSb.out.kept hb5
          replace CN : Aside (w5.cell? ⟨w.heap.size + 1, 0, none⟩ = some (.int .i64 n)) := cell_kept hb5 CN.out
          replace B0 : Aside (Below w.heap.size w w5) := bt B0.out hb5
          clear hb5 c0
          cases hm5 : must5 s with
          | false =>
            have F := hid (show checkE s n = 90 by rw [FN.out, if_neg (by simp [shapeB, hm5])])
            go_wp2
            go_ret
            exact ⟨ret_i F.out.symm, B0.out⟩
          | true =>
            have M5 := hid hm5
            clear hm5
            go_wp2
            rw [rounds_succ]
            have HSH := hid (show checkE s n = (sumFrom 0 (priceL s)).2 by rw [FN.out, if_pos (by simp [shapeB, M1.out, M2.out, M3.out, M4.out, M5.out])])
            obtain ⟨k0, k1, k2, k3, k4⟩ := BX.out
            go_wp2_with fail
            refine (price_any s ⟨la, lc, ta, tc⟩ w5 HSb.out OK.out).mono ?_
            rintro e w6 ⟨rfl, hb6⟩
            clear k0 k1 k2 k3 k4
            go_wp2
            go_ret
            exact ⟨ret_i HSH.out.symm, bt B0.out hb6⟩
end Go.Proofs.YtmhbpifhpolghaaGreat
end
