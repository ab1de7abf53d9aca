/- Bw, Tick19, Tb1, Tb2. -/
import Derived.Test.YtlekbdpdlalhbaaGreatM967e4a0
import Derived.Test.YtlekbdpdlalhbaaGreatM3fa2fb6
section
namespace Go.Proofs.YtlekbdpdlalhbaaGreat
set_option maxRecDepth 100000
open Go.RowKit Go.Lib Go.Tk Go.Shelf Go.Vc Go.Sx
set_option linter.unusedVariables false
set_option linter.unusedSimpArgs false

def sale15 : SaleV := ⟨⟨#[68, 79, 69, 47, 74]⟩, [⟨1, 0, 1⟩, ⟨0, 0, 1⟩], 101, [], 20⟩
theorem sale15_ok : SaleOk sale15 where
  name := by unfold maxLen; show (5 : Nat) ≤ _; decide
  legs := by intro l hl; simp [sale15] at hl; rcases hl with rfl | rfl <;> (unfold LegOk; decide)
  taxes := by intro t ht; cases ht
  fare := by decide
  pen := by decide
  nl := by decide
  nt := by decide
def t15 : Tid := ⟨1, 1⟩
def C15 : BookV := ⟨1, 3, [⟨t15, sale15, [51, 50], ⟨0, 0⟩, ⟨0, 0⟩, 0, 101, 0, 0, 0⟩], [(⟨t15, 0⟩, ownNew ⟨1, 0, 1⟩ 51), (⟨t15, 1⟩, ownNew ⟨0, 0, 1⟩ 50)], []⟩
theorem sort_15 : Go.Tk.sortL (restsL 101 2 [1, 1]) = [(1, 0), (1, 1)] := by
  refine (sortL_unique ?_ ?_).symm
  · decide
  · decide
theorem share_15 : shareV 101 [1, 1] = [51, 50] := by
  have e : shareE 101 [1, 1] = 0 := by decide
  unfold shareV
  rw [if_pos e]
  unfold shareL chosen
  have hs : ([1, 1] : List Int).sum = 2 := by decide
  rw [hs, sort_15]
  decide
theorem share15 : shareV sale15.fare (wsOf sale15) = [51, 50] := share_15
theorem iss15 : (bookNew 1 3).issued sale15 = C15 := by unfold BookV.issued docMade; rw [share15]; rfl
def k15 : Kid := ⟨⟨0, 7⟩, 0⟩
def C15b : BookV := { C15 with helds := [(k15, { held0 with wanted := true })] }
def Known15F : Nat := 85
def WakesF15 : Nat := 22
theorem known15_w : CallOK Tryz.prog Known15F [] [] [] (.agg (salS sale15 (.raw 1 0) nilS)) [((1, 0), legD 2 sale15.legs)] := callOK_run 400 [] (by kernel_rfl) (by kernel_rfl)
theorem wakes15_w : CallOK Tryz.prog WakesF15 [] [] [] (.val (.bool true)) [] := by
  have n1 := new_okC (self := 1) (n := 3) (by decide) (by decide)
  have n3 := known15_w
  have n4 := issue_okR (book_new_ok 1 3 (by decide)) sale15_ok (by kernel_rfl)
  rw [iss15] at n4
  have c1 := own_c C15 (k := ⟨t15, 1⟩) ⟨⟨by decide, by decide⟩, by decide, by decide⟩
  rw [show lkt C15.owns ⟨t15, 1⟩ = some (ownNew ⟨0, 0, 1⟩ 50) from rfl] at c1
  have c2 := own_c C15 (k := ⟨t15, 2⟩) ⟨⟨by decide, by decide⟩, by decide, by decide⟩
  rw [show lkt C15.owns ⟨t15, 2⟩ = none from rfl] at c2
  have c3 := setHeld_c C15 (k := k15) ⟨⟨by decide, by decide⟩, by decide, by decide⟩ { held0 with wanted := true }
  rw [show C15.setHE k15 = 0 by kernel_rfl, show C15.setH k15 { held0 with wanted := true } = C15b from rfl] at c3
  have c4 := open_c C15b 0 (by show (2 : Nat) ≤ 1000; decide) (by show (1 : Nat) ≤ 1000; decide)
  rw [show openN C15b 0 = 1 from rfl] at c4
  have c5 := setHeld_c C15b (k := ⟨t15, 0⟩) ⟨⟨by decide, by decide⟩, by decide, by decide⟩ held0
  rw [show C15b.setHE ⟨t15, 0⟩ = 1 by kernel_rfl, show C15b.setH ⟨t15, 0⟩ held0 = C15b from rfl] at c5
  exact callOK_run 900 [hC 1 0 n1, hC 4 1 n3, hC 4 2 n4, hC 5 4 c1, hC 6 4 c2, hC 8 3 c3, hC 9 34 c4, hC 9 43 c5] (by kernel_rfl) (by kernel_rfl)
end Go.Proofs.YtlekbdpdlalhbaaGreat
end
section
namespace Go.Proofs.YtlekbdpdlalhbaaGreat
set_option maxRecDepth 100000
open Go.RowKit Go.Lib Go.Tk Go.Sort Go.Shelf

def stB (s : Int) : Bool := decide (1 ≤ s) && decide (s ≤ 7)

theorem is_anyT (s : Int) (w : World) :
    Calls Tryz.prog 164 #[.int .u8 s] w fun e w' => e = .returned (.bool (stB s)) ∧ w = w' := by
  go_enter Tryz.func164, Tryz.ntmps164
  go_wp2
  all_goals (go_ret; refine ⟨ret_bool ?_, rfl⟩; unfold stB; rw [Bool.eq_iff_iff]; simp; omega)
theorem notIs_any (s : Int) (w : World) :
    Calls Tryz.prog 170 #[.int .u8 s] w fun e w' => e = .returned (.bool (!stB s)) ∧ w = w' := by
  go_enter Tryz.func170, Tryz.ntmps170
  go_wp2_with fail
  refine (is_anyT _ _).mono ?_
  rintro e w' ⟨rfl, rfl⟩
  go_wp2
  go_ret
  exact ⟨rfl, rfl⟩

theorem st_at {w : World} {a : Option Addr} {l : List Int} (h : Row w a (l.map (.int .u8))) {k : Nat} (hk : k < l.length) :
    ∃ b off, a = some ⟨b, off, none⟩ ∧ w.cell? ⟨b, off + k, none⟩ = some (.int .u8 l[k]) := by
  obtain ⟨b, off, hab, hc⟩ := h k (by simpa using hk)
  refine ⟨b, off, hab, ?_⟩
  rw [hc]; simp [List.getD_eq_getElem?_getD, hk]

set_option maxHeartbeats 1000000 in
theorem idxSt_any (l : List Int) (a : Option Addr) (m cap : Nat) (w : World) (hn : l.length = m) (hm : m ≤ 9223372036854775807) (hr : Row w a (l.map (.int .u8))) :
    Calls Tryz.prog 202 #[.slice a m cap, .func (.func 170) #[] #[]] w (IdxIs (l.any (fun s => !stB s)) w) := by
  subst hn
  have Hr := hid hr
  clear hr
  go_enter Tryz.func202, Tryz.ntmps202
  go_wp2
  go_loopw [8] (fun i wr => ∃ k : Nat, k ≤ l.length ∧ i = .int .i64 k ∧ Hid ((l.take k).any (fun s => !stB s) = false) ∧ Aside (Below w.heap.size w wr)) (fun i _ => l.length - (intOf i).toNat)
  case atStart => exact ⟨0, Nat.zero_le _, rfl, rfl, Below.refl _ _⟩
  case round =>
    obtain ⟨k, hk, rfl, H, B⟩ := hrel
    by_cases hlt2 : k < l.length
    · obtain ⟨b, off, rfl, c1⟩ := st_at (Hr.out.kept B.out) hlt2
      have HS := hid (any_take_succ (p := fun s => !stB s) hlt2)
      have HT := hid (any_at (p := fun s => !stB s) hlt2)
      generalize l[k] = x at *
      have KEY := hid (notIs_any x wr)
      cases hp : stB x with
      | false =>
        have HU := hid (HT.out (by rw [hp]; rfl))
        go_wp2_with fail
        refine KEY.out.mono ?_
        rintro e w2 ⟨rfl, rfl⟩
        rw [hp]
        clear hp
        go_wp2
        go_ret
        exact ⟨k, rfl, by rw [HU.out]; exact decide_eq_true (by omega), B.out⟩
      | true =>
        have HU := hid hp
        go_wp2_with fail
        refine KEY.out.mono ?_
        rintro e w2 ⟨rfl, rfl⟩
        rw [hp]
        clear hp
        go_wp2
        go_roundw
        case rel => exact ⟨k + 1, by omega, by go_num, hid (by rw [HS.out, H.out, HU.out]; rfl), B.out⟩
        case measure => simp [intOf]; omega
    · obtain rfl : k = l.length := by omega
      have HU := hid (show l.any (fun s => !stB s) = false by have := H.out; rw [List.take_length] at this; exact this)
      clear H
      go_wp2
      go_ret
      exact ⟨-1, rfl, by rw [HU.out]; decide, B.out⟩

set_option maxHeartbeats 400000 in
theorem hasSt_any (l : List Int) (a : Option Addr) (m cap : Nat) (w : World) (hn : l.length = m) (hm : m ≤ 9223372036854775807) (hr : Row w a (l.map (.int .u8))) :
    Calls Tryz.prog 169 #[.slice a m cap, .func (.func 170) #[] #[]] w fun e w' => e = .returned (.bool (l.any (fun s => !stB s))) ∧ Below w.heap.size w w' := by
  have KEY := hid (idxSt_any l a m cap w hn hm hr)
  clear hr hn
  go_enter Tryz.func169, Tryz.ntmps169
  go_wp2_with fail
  refine KEY.out.mono ?_
  rintro e w2 ⟨r, rfl, hr, hb2⟩
  have HR := hid hr
  clear hr
  go_wp2
  go_ret
  exact ⟨ret_bool (by first | exact HR.out | (rw [← HR.out])), hb2⟩

/-! ### what is given, by the document -/
end Go.Proofs.YtlekbdpdlalhbaaGreat
end
section
namespace Go.Proofs.YtlekbdpdlalhbaaGreat
open Go.RowKit Go.Lib Go.Tk

structure TDocV where
  c : Int
  r : Int
  s : SaleV
  vals : List Int
  fc : Int
  fr : Int
  tc : Int
  tr : Int
  cred : Int
  paid : Int
  back : Int
  kept : Int
  left : Int
structure TDocA where
  S : SaleA
  va : Option Addr
  vc : Nat
def tdocArr (d : TDocV) (D : TDocA) : Array Value :=
  #[.int .u8 d.c, .int .u64 d.r, .string d.s.name, .slice D.S.la d.s.legs.length D.S.lc, .int .i64 d.s.fare, .slice D.S.ta d.s.taxes.length D.S.tc, .int .i64 d.s.pen, .slice D.va d.vals.length D.vc, .int .u8 d.fc, .int .u64 d.fr, .int .u8 d.tc, .int .u64 d.tr, .int .i64 d.cred, .int .i64 d.paid, .int .i64 d.back, .int .i64 d.kept, .int .i64 d.left]
def tdocAgg (d : TDocV) (D : TDocA) : Value := .agg (tdocArr d D)
structure TDocAt (w : World) (d : TDocV) (D : TDocA) : Prop where
  sale : SaleAt w d.s D.S
  vals : Row w D.va (d.vals.map (.int .i64))
theorem TDocAt.kept {w w' : World} {d : TDocV} {D : TDocA} (h : TDocAt w d D) (hb : Below w.heap.size w w') : TDocAt w' d D := ⟨h.sale.kept hb, h.vals.kept hb⟩

/-- what is taken off, of pairs of statuses and values -/
def lessZ (z : List (Int × Int)) : List Int := (z.filter (fun p => decide (p.1 ≤ 4))).map (·.2)
def lessL (vals st : List Int) : List Int := lessZ (st.zip vals)
theorem lessZ_snoc (z : List (Int × Int)) (p : Int × Int) : lessZ (z ++ [p]) = if p.1 ≤ 4 then lessZ z ++ [p.2] else lessZ z := by
  unfold lessZ
  by_cases h : p.1 ≤ 4
  · rw [if_pos h, List.filter_append, List.map_append]; simp [h]
  · rw [if_neg h, List.filter_append, List.map_append]; simp [h]
theorem zip_step {st vals : List Int} {k : Nat} (h1 : k < st.length) (h2 : k < vals.length) : (st.zip vals).take (k + 1) = (st.zip vals).take k ++ [(st[k], vals[k])] := by
  have h : k < (st.zip vals).length := by rw [List.length_zip]; omega
  rw [List.take_succ_eq_append_getElem h, List.getElem_zip]
theorem less_yes {st vals : List Int} {k : Nat} (h1 : k < st.length) (h2 : k < vals.length) (h : st[k] ≤ 4) : lessZ ((st.zip vals).take (k + 1)) = lessZ ((st.zip vals).take k) ++ [vals[k]] := by
  rw [zip_step h1 h2, lessZ_snoc, if_pos h]
theorem less_no {st vals : List Int} {k : Nat} (h1 : k < st.length) (h2 : k < vals.length) (h : ¬ st[k] ≤ 4) : lessZ ((st.zip vals).take (k + 1)) = lessZ ((st.zip vals).take k) := by
  rw [zip_step h1 h2, lessZ_snoc, if_neg h]
theorem less_all {st vals : List Int} (h : st.length = vals.length) : lessZ ((st.zip vals).take st.length) = lessL vals st := by
  unfold lessL; rw [List.take_of_length_le (by rw [List.length_zip]; omega)]

def subStep (s : Int × Int) (a : Int) : Int × Int := if s.2 = 0 then subI s.1 a else s
def subAll (s : Int × Int) (l : List Int) : Int × Int := l.foldl subStep s
theorem subAll_drop {s : Int × Int} {l : List Int} {k : Nat} (h : k < l.length) : subAll s (l.drop k) = subAll (subStep s l[k]) (l.drop (k + 1)) := by
  unfold subAll; rw [List.drop_eq_getElem_cons h]; rfl
def badSt (st : List Int) : Bool := st.any (fun s => !stB s)
def lessAll (d : TDocV) (st : List Int) : List Int := [d.back, d.kept, d.left] ++ lessL d.vals st
def balOk (d : TDocV) (st : List Int) (pl : Nat) : Prop := st.length = d.vals.length ∧ pl = d.vals.length ∧ badSt st = false
instance (d : TDocV) (st : List Int) (pl : Nat) : Decidable (balOk d st pl) := inferInstanceAs (Decidable (_ ∧ _ ∧ _))
def balI (d : TDocV) (st : List Int) (pl : Nat) : Int × Int := if balOk d st pl then subAll (sumFrom 0 [d.paid, d.cred]) (lessAll d st) else (0, 1)

/-! ### by the document -/
theorem mem_less {vals st : List Int} {x : Int} (h : x ∈ lessL vals st) : x ∈ vals := by
  unfold lessL lessZ at h
  obtain ⟨p, hp, rfl⟩ := List.mem_map.1 h
  have h1 := (List.mem_filter.1 hp).1
  obtain ⟨a, b⟩ := p
  exact (List.of_mem_zip h1).2
end Go.Proofs.YtlekbdpdlalhbaaGreat
end
section
namespace Go.Proofs.YtlekbdpdlalhbaaGreat
set_option maxRecDepth 100000
open Go.RowKit Go.Lib Go.Tk Go.Sort Go.Shelf

def tdocBox (w : World) (b : Nat) (d : TDocV) (D : TDocA) : Prop := Box w b (tdocArr d D)
theorem tdocBox.kept {w w' : World} {b : Nat} {d : TDocV} {D : TDocA} (h : tdocBox w b d D) (hb : Below w.heap.size w w') : tdocBox w' b d D := Box.kept h hb
theorem tdocBox.vals {w : World} {b : Nat} {d : TDocV} {D : TDocA} (h : tdocBox w b d D) : w.cell? ⟨b, 7, none⟩ = some (.slice D.va d.vals.length D.vc) := Box.cell h 7 rfl
theorem tdocBox.cred {w : World} {b : Nat} {d : TDocV} {D : TDocA} (h : tdocBox w b d D) : w.cell? ⟨b, 12, none⟩ = some (.int .i64 d.cred) := Box.cell h 12 rfl
theorem tdocBox.paid {w : World} {b : Nat} {d : TDocV} {D : TDocA} (h : tdocBox w b d D) : w.cell? ⟨b, 13, none⟩ = some (.int .i64 d.paid) := Box.cell h 13 rfl
theorem tdocBox.back {w : World} {b : Nat} {d : TDocV} {D : TDocA} (h : tdocBox w b d D) : w.cell? ⟨b, 14, none⟩ = some (.int .i64 d.back) := Box.cell h 14 rfl
theorem tdocBox.keptC {w : World} {b : Nat} {d : TDocV} {D : TDocA} (h : tdocBox w b d D) : w.cell? ⟨b, 15, none⟩ = some (.int .i64 d.kept) := Box.cell h 15 rfl
theorem tdocBox.left {w : World} {b : Nat} {d : TDocV} {D : TDocA} (h : tdocBox w b d D) : w.cell? ⟨b, 16, none⟩ = some (.int .i64 d.left) := Box.cell h 16 rfl
theorem tint_at {k : IntKind} {w : World} {a : Option Addr} {l : List Int} (h : Row w a (l.map (.int k))) {i : Nat} (hi : i < l.length) :
    ∃ b off, a = some ⟨b, off, none⟩ ∧ w.cell? ⟨b, off + i, none⟩ = some (.int k l[i]) := by
  obtain ⟨b, off, hab, hc⟩ := h i (by simpa using hi)
  refine ⟨b, off, hab, ?_⟩
  rw [hc]; simp [List.getD_eq_getElem?_getD, hi]

set_option maxRecDepth 100000 in
set_option maxHeartbeats 4000000 in
/-- where the lengths do not fit, or a status is none -/
theorem balance_no (d : TDocV) (D : TDocA) (st : List Int) (sa : Option Addr) (sc : Nat) (pa : Option Addr) (pl pc : Nat) (w : World) (hs : Row w sa (st.map (.int .u8)))
    (_ls : st.length ≤ 1000) (_lv : d.vals.length ≤ 1000) (lp : pl ≤ 1000) (hb : ¬ balOk d st pl) :
    Calls Tryz.prog 132 #[tdocAgg d D, .slice sa st.length sc, .slice pa pl pc] w fun e w' => e = .returned (.tuple #[.int .i64 0, .int .i64 1]) ∧ Below w.heap.size w w' := by
  have HS := hid hs
  clear hs
  unfold tdocAgg tdocArr
  by_cases h1 : st.length = d.vals.length
  case neg =>
    have q : ((st.length : Int) != (d.vals.length : Int)) = true := by rw [bne_iff_ne]; omega
    clear hb
    go_enter Tryz.func132, Tryz.ntmps132
    go_wp2_with fail
    go_ret2
    exact ⟨rfl, below_alloc _ _⟩
  case pos =>
  by_cases h2 : pl = d.vals.length
  case neg =>
    have q : ((st.length : Int) != (d.vals.length : Int)) = false := by simp [h1]
    have q2 : ((pl : Int) != (d.vals.length : Int)) = true := by rw [bne_iff_ne]; omega
    clear hb
    go_enter Tryz.func132, Tryz.ntmps132
    go_wp2_with fail
    go_ret2
    exact ⟨rfl, below_alloc _ _⟩
  case pos =>
    have q : ((st.length : Int) != (d.vals.length : Int)) = false := by simp [h1]
    have q2 : ((pl : Int) != (d.vals.length : Int)) = false := by simp [h2]
    have hbad : badSt st = true := by
      cases hq : badSt st with
      | true => rfl
      | false => exact absurd ⟨h1, h2, hq⟩ hb
    have HB := hid hbad
    have K := hid (fun w' (hb : Below w.heap.size w w') => hasSt_any st sa st.length sc w' rfl (by omega) (HS.out.kept hb))
    clear hb hbad h1 h2
    go_enter Tryz.func132, Tryz.ntmps132
    go_wp2_with fail
    refine (K.out _ (below_alloc _ _)).mono ?_
    rintro e w2 ⟨rfl, hb2⟩
    rw [show (st.any fun s => !stB s) = true from HB.out]
    have B2 := hid (bt (below_alloc _ _) hb2)
    clear hb2 K
    go_wp2
    go_ret2
    exact ⟨rfl, B2.out⟩

set_option maxRecDepth 100000 in
set_option maxHeartbeats 8000000 in
theorem balance_yes (d : TDocV) (D : TDocA) (st : List Int) (sa : Option Addr) (sc : Nat) (pa : Option Addr) (pl pc : Nat) (w : World) (hs : Row w sa (st.map (.int .u8))) (hd : Row w D.va (d.vals.map (.int .i64)))
    (lv : d.vals.length ≤ 1000) (hb : balOk d st pl) :
    Calls Tryz.prog 132 #[tdocAgg d D, .slice sa st.length sc, .slice pa pl pc] w fun e w' => e = .returned (.tuple #[.int .i64 (subAll (sumFrom 0 [d.paid, d.cred]) (lessAll d st)).1, .int .i64 (subAll (sumFrom 0 [d.paid, d.cred]) (lessAll d st)).2]) ∧ Below w.heap.size w w' := by
  have HS := hid hs
  have HV := hid hd
  obtain ⟨h1, h2, h3⟩ := hb
  have HB := hid h3
  have q : ((st.length : Int) != (d.vals.length : Int)) = false := by simp [h1]
  have q2 : ((pl : Int) != (d.vals.length : Int)) = false := by simp [h2]
  have K := hid (fun w' (hb : Below w.heap.size w w') => hasSt_any st sa st.length sc w' rfl (by omega) (HS.out.kept hb))
  have KS := hid (fun w' a c (hr : Row w' a ([d.paid, d.cred].map (.int .i64))) => sum_anyN a 2 c [d.paid, d.cred] w' rfl hr (by simp))
  obtain ⟨s0, hs0⟩ : ∃ s0, sumFrom 0 [d.paid, d.cred] = s0 := ⟨_, rfl⟩
  rw [hs0] at KS ⊢
  have H1 := hid h1
  obtain ⟨res, hres⟩ : ∃ res, subAll s0 (lessAll d st) = res := ⟨_, rfl⟩
  rw [hres]
  have HRES := hid hres
  clear hres
  clear hs hd h2 h3 hs0 h1
  obtain ⟨W1, hW1⟩ : ∃ W1, W1 = w.alloc (.cells (tdocArr d D) 62) := ⟨_, rfl⟩
  have xd1 : tdocBox W1 w.heap.size d D := by rw [hW1]; exact Box.new rfl
  have b1 : Below w.heap.size w W1 := by rw [hW1]; exact below_alloc _ _
  have HI := hid i64row3
  unfold tdocArr at hW1
  have HW := hid hW1
  clear hW1
  unfold tdocAgg tdocArr
  go_enter Tryz.func132, Tryz.ntmps132
  go_wp2_with fail
  rw [← HW.out]
  refine (K.out _ b1).mono ?_
  rintro e w2 ⟨rfl, hb2⟩
  rw [show (st.any fun s => !stB s) = false from HB.out]
  have xd2 := xd1.kept hb2
  have b2 := bt b1 hb2
  have XD2 := hid xd2
  have B2 := hid b2
  have k13 := xd2.paid
  have k12 := xd2.cred
  clear xd1 b1 hb2 HW K HB xd2 b2
  go_wp2_with fail
  refine (KS.out _ _ _ (row_new rfl)).mono ?_
  rintro e w3 ⟨rfl, hb3⟩
  have bb : Below w2.heap.size w2 w3 := bt (below_alloc _ _) hb3
  have xd3 := XD2.out.kept bb
  have B3 := hid (bt B2.out bb)
  have k14 := xd3.back
  have k15 := xd3.keptC
  have k16 := xd3.left
  have XD3 := hid xd3
  clear k13 k12 KS B2 XD2 hb3 bb xd3
  go_wp2
  go_loopw [10, 51] (fun s10 i wr => ∃ (k n : Nat) (v : Value) (L : List Int), k ≤ st.length ∧ i = .int .i64 k ∧ s10 = v ∧ n = L.length ∧ n ≤ 3 + k ∧ Hid (L = [d.back, d.kept, d.left] ++ lessZ ((st.zip d.vals).take k)) ∧ Aside (wr.ownsRow w3.heap.size 2 1 v n (L.map (.int .i64))) ∧ Aside (Below w3.heap.size w3 wr)) (fun _ i _ => st.length - (intOf i).toNat)
  case atStart =>
    refine ⟨0, 3, _, [d.back, d.kept, d.left], Nat.zero_le _, rfl, rfl, rfl, by omega, ?_, ?_, below_alloc _ _⟩
    · rw [List.take_zero]; rfl
    · have := World.ownsRow_lit (base := w3.heap.size) (e := 2) (size := 1) w3 #[.int .i64 d.back, .int .i64 d.kept, .int .i64 d.left] 3 (by simp) (by unfold maxLen; omega) rfl
      show World.ownsRow _ _ _ _ _ _ _
      simpa using this
  case round =>
    obtain ⟨k, n, v, L, hk, rfl, rfl, hn, hle, HL, O1, B1⟩ := hrel
    have hbs := B1.out.size
    by_cases hlt : k < st.length
    · have hv : k < d.vals.length := by have := H1.out; omega
      obtain ⟨b, off, rfl, c1⟩ := st_at (HS.out.kept (bt B3.out B1.out)) hlt
      have LY := hid (fun h => less_yes hlt hv h)
      have LN := hid (fun h => less_no hlt hv h)
      obtain ⟨b2, off2, hva, c2⟩ := tint_at (HV.out.kept (bt B3.out B1.out)) hv
      have kv := (XD3.out.kept B1.out).vals
      rw [hva] at kv
      generalize st[k] = x at *
      generalize d.vals[k] = y at *
      by_cases hx : x ≤ 4
      · have HX := hid hx
        have hm1 : n + 1 ≤ maxLen := by unfold maxLen; omega
        have hm8 : (n + 1) * 8 ≤ 140737488355328 := by omega
        go_wp2_with (at_builtin; refine wpList_append_row_at rfl _ _ 60 rfl w3.heap.size 2 (.int .i64 0) 1 8 Tryz.underlying60 HI.out rfl (by decide) _ n _ rfl (World.ownsRow.alloc O1.out _) _ 1 1 [.int .i64 y] rfl (by simp) (row_new (by simp)) rfl (by simp [Value.oneCell']) hm1 hm8 (by simp; omega) ?_; intro v1 w4 ho1 hg1 hat1)
        have hg1' : (wr.alloc (.cells #[.int .i64 y] 2)).grownBy w4 u10.ownBlock := hg1
        have B4 : Aside (Below w3.heap.size w3 w4) := (B1.out.alloc B1.out.size _).grown hg1' (by simp; omega) (fun g e => (World.ownsRow.lt O1.out g e).1)
        have O4 : Aside (w4.ownsRow w3.heap.size 2 1 v1 (n + 1) ((L ++ [y]).map (.int .i64))) := by
          show World.ownsRow _ _ _ _ _ _ _
          rw [List.map_append]; exact ho1
        clear hg1 hg1' hat1 ho1 O1 B1 c1 c2 kv
        go_roundw
        case measure => simp [intOf]; omega
        case rel => exact ⟨_, _, _, _, ⟨k + 1, by omega, by go_num, n + 1, L ++ [y], by simp [hn], by omega, hid (by rw [HL.out, LY.out HX.out]; simp), O4, B4⟩, rfl, rfl, rfl, rfl⟩
      · have HX := hid hx
        go_wp2
        go_roundw
        case measure => simp [intOf]; omega
        case rel => exact ⟨k + 1, n, _, L, by omega, by go_num, rfl, hn, by omega, hid (by rw [HL.out, LN.out HX.out]), O1, B1⟩
    · obtain rfl : k = st.length := by omega
      obtain ⟨a', cap', hv, hr', -⟩ := row_of_owns (show wr.ownsRow w3.heap.size 2 1 u10 n _ from O1.out)
      subst hv
      have hL : L = lessAll d st := by rw [HL.out]; unfold lessAll; rw [less_all H1.out]
      have HR := hid hr'
      have HF := hid (show subAll s0 L = res by rw [hL]; exact HRES.out)
      have BR := hid (bt B3.out B1.out)
      have hL3 : L.length ≤ 1003 := by have := H1.out; omega
      subst hn
      obtain ⟨wl, hwl⟩ : ∃ wl, wl = wr := ⟨_, rfl⟩
      subst hwl
      clear HRES HL hL O1 B1 hr' k14 k15 k16 XD3 B3 HS HV HI hbs hk H1
      obtain ⟨o0, e0⟩ := s0
      go_wp2
      go_loopw [8, 9, 69] (fun s8 s9 i wr => ∃ (k : Nat) (o e : Int), k ≤ L.length ∧ i = .int .i64 k ∧ s8 = .int .i64 o ∧ s9 = .int .i64 e ∧ Hid (subAll (o0, e0) L = subAll (o, e) (L.drop k)) ∧ Aside (Below wl.heap.size wl wr)) (fun _ _ i _ => L.length - (intOf i).toNat)
      case atStart => exact ⟨0, o0, e0, Nat.zero_le _, rfl, rfl, rfl, rfl, Below.refl _ _⟩
      case round =>
        obtain ⟨k, o, e, hk, rfl, rfl, rfl, HE, BQ⟩ := hrel
        by_cases hlt : k < L.length
        · obtain ⟨b, off, rfl, c1⟩ := tint_at (HR.out.kept BQ.out) hlt
          have HD := hid (subAll_drop (s := (o, e)) hlt)
          generalize L[k] = x at *
          by_cases he : e = 0
          · subst he
            have HD2 := hid (show subAll (o, 0) (L.drop k) = subAll (subI o x) (L.drop (k + 1)) from HD.out)
            clear HD
            have KK := hid (sub_any o x wr)
            go_wp2_with fail
            refine KK.out.mono ?_
            rintro e' w5 ⟨rfl, hb5⟩
            go_wp2
            go_roundw
            case measure => simp [intOf]; omega
            case rel => exact ⟨k + 1, (subI o x).1, (subI o x).2, by omega, by go_num, rfl, rfl, hid (HE.out.trans HD2.out), bt BQ.out hb5⟩
          · have q3 : (e == 0) = false := by simpa using he
            have HD2 := hid (show subAll (o, e) (L.drop k) = subAll (o, e) (L.drop (k + 1)) by rw [HD.out]; unfold subStep; rw [if_neg he])
            clear HD
            go_wp2
            go_roundw
            case measure => simp [intOf]; omega
            case rel => exact ⟨k + 1, o, e, by omega, by go_num, rfl, rfl, hid (HE.out.trans HD2.out), BQ⟩
        · obtain rfl : k = L.length := by omega
          have HZ := hid (show res = (o, e) by rw [← HF.out, HE.out, List.drop_length]; rfl)
          go_wp2
          go_ret2
          refine ⟨?_, bt BR.out BQ.out⟩
          rw [HZ.out]
          rfl

theorem balance_anyV (d : TDocV) (D : TDocA) (st : List Int) (sa : Option Addr) (sn sc : Nat) (pa : Option Addr) (pl pc : Nat) (w : World) (hn : st.length = sn) (hs : Row w sa (st.map (.int .u8))) (hd : Row w D.va (d.vals.map (.int .i64)))
    (ls : st.length ≤ 1000) (lv : d.vals.length ≤ 1000) (lp : pl ≤ 1000) :
    Calls Tryz.prog 132 #[tdocAgg d D, .slice sa sn sc, .slice pa pl pc] w fun e w' => e = .returned (.tuple #[.int .i64 (balI d st pl).1, .int .i64 (balI d st pl).2]) ∧ Below w.heap.size w w' := by
  subst hn
  unfold balI
  by_cases hb : balOk d st pl
  · rw [if_pos hb]; exact balance_yes d D st sa sc pa pl pc w hs hd lv hb
  · rw [if_neg hb]; exact balance_no d D st sa sc pa pl pc w hs ls lv lp hb
end Go.Proofs.YtlekbdpdlalhbaaGreat
end
