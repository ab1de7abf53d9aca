/- TICKET 20: Balance. -/
import Derived.Test.YtijldpkchmpjkaaBalPlain
namespace Go.Proofs.Ytijldpkchmpjkaa
open Go.RowKit Go.Lib Go.Tk Go.Sort Go.Shelf

def docBox (w : World) (b : Nat) (d : DocV) (D : DocA) : Prop := Box w b (docArr d D)
theorem docBox.kept {w w' : World} {b : Nat} {d : DocV} {D : DocA} (h : docBox w b d D) (hb : Below w.heap.size w w') : docBox w' b d D := Box.kept h hb
theorem docBox.vals {w : World} {b : Nat} {d : DocV} {D : DocA} (h : docBox w b d D) : w.cell? ⟨b, 7, none⟩ = some (.slice D.va d.vals.length D.vc) := Box.cell h 7 rfl
theorem docBox.cred {w : World} {b : Nat} {d : DocV} {D : DocA} (h : docBox w b d D) : w.cell? ⟨b, 12, none⟩ = some (.int .i64 d.cred) := Box.cell h 12 rfl
theorem docBox.paid {w : World} {b : Nat} {d : DocV} {D : DocA} (h : docBox w b d D) : w.cell? ⟨b, 13, none⟩ = some (.int .i64 d.paid) := Box.cell h 13 rfl
theorem docBox.back {w : World} {b : Nat} {d : DocV} {D : DocA} (h : docBox w b d D) : w.cell? ⟨b, 14, none⟩ = some (.int .i64 d.back) := Box.cell h 14 rfl
theorem docBox.keptC {w : World} {b : Nat} {d : DocV} {D : DocA} (h : docBox w b d D) : w.cell? ⟨b, 15, none⟩ = some (.int .i64 d.kept) := Box.cell h 15 rfl
theorem docBox.left {w : World} {b : Nat} {d : DocV} {D : DocA} (h : docBox w b d D) : w.cell? ⟨b, 16, none⟩ = some (.int .i64 d.left) := Box.cell h 16 rfl
theorem int_at {k : IntKind} {w : World} {a : Option Addr} {l : List Int} (h : Row w a (l.map (.int k))) {i : Nat} (hi : i < l.length) :
    ∃ b off, a = some ⟨b, off, none⟩ ∧ w.cell? ⟨b, off + i, none⟩ = some (.int k l[i]) := by
  obtain ⟨b, off, hab, hc⟩ := h i (by simpa using hi)
  refine ⟨b, off, hab, ?_⟩
  rw [hc]; simp [List.getD_eq_getElem?_getD, hi]

set_option maxRecDepth 100000 in
set_option maxHeartbeats 4000000 in
/-- where the lengths do not fit, or a status is none -/
theorem balance_no (d : DocV) (D : DocA) (st : List Int) (sa : Option Addr) (sc : Nat) (pa : Option Addr) (pl pc : Nat) (w : World) (hs : Row w sa (st.map (.int .u8)))
    (_ls : st.length ≤ 1000) (_lv : d.vals.length ≤ 1000) (lp : pl ≤ 1000) (hb : ¬ balOk d st pl) :
    Calls Try.prog 30 #[docAgg d D, .slice sa st.length sc, .slice pa pl pc] w fun e w' => e = .returned (.tuple #[.int .i64 0, .int .i64 1]) ∧ Below w.heap.size w w' := by
  have HS := hid hs
  clear hs
  unfold docAgg docArr
  by_cases h1 : st.length = d.vals.length
  case neg =>
    have q : ((st.length : Int) != (d.vals.length : Int)) = true := by rw [bne_iff_ne]; omega
    clear hb
    go_enter Try.func30, Try.ntmps30
    go_wp2_with fail
    go_ret2
    exact ⟨rfl, below_alloc _ _⟩
  case pos =>
  by_cases h2 : pl = d.vals.length
  case neg =>
    have q : ((st.length : Int) != (d.vals.length : Int)) = false := by simp [h1]
    have q2 : ((pl : Int) != (d.vals.length : Int)) = true := by rw [bne_iff_ne]; omega
    clear hb
    go_enter Try.func30, Try.ntmps30
    go_wp2_with fail
    go_ret2
    exact ⟨rfl, below_alloc _ _⟩
  case pos =>
    have q : ((st.length : Int) != (d.vals.length : Int)) = false := by simp [h1]
    have q2 : ((pl : Int) != (d.vals.length : Int)) = false := by simp [h2]
    have hbad : badSt st = true := by
      cases hq : badSt st with
      | true => rfl
      | false => exact absurd ⟨h1, h2, hq⟩ hb
    have HB := hid hbad
    have K := hid (fun w' (hb : Below w.heap.size w w') => hasSt_any st sa st.length sc w' rfl (by omega) (HS.out.kept hb))
    clear hb hbad h1 h2
    go_enter Try.func30, Try.ntmps30
    go_wp2_with fail
    refine (K.out _ (below_alloc _ _)).mono ?_
    rintro e w2 ⟨rfl, hb2⟩
    rw [show (st.any fun s => !stB s) = true from HB.out]
    have B2 := hid (bt (below_alloc _ _) hb2)
    clear hb2 K
    go_wp2
    go_ret2
    exact ⟨rfl, B2.out⟩

set_option maxRecDepth 100000 in
set_option maxHeartbeats 8000000 in
theorem balance_yes (d : DocV) (D : DocA) (st : List Int) (sa : Option Addr) (sc : Nat) (pa : Option Addr) (pl pc : Nat) (w : World) (hs : Row w sa (st.map (.int .u8))) (hd : Row w D.va (d.vals.map (.int .i64)))
    (lv : d.vals.length ≤ 1000) (hb : balOk d st pl) :
    Calls Try.prog 30 #[docAgg d D, .slice sa st.length sc, .slice pa pl pc] w fun e w' => e = .returned (.tuple #[.int .i64 (subAll (sumFrom 0 [d.paid, d.cred]) (lessAll d st)).1, .int .i64 (subAll (sumFrom 0 [d.paid, d.cred]) (lessAll d st)).2]) ∧ Below w.heap.size w w' := by
  have HS := hid hs
  have HV := hid hd
  obtain ⟨h1, h2, h3⟩ := hb
  have HB := hid h3
  have q : ((st.length : Int) != (d.vals.length : Int)) = false := by simp [h1]
  have q2 : ((pl : Int) != (d.vals.length : Int)) = false := by simp [h2]
  have K := hid (fun w' (hb : Below w.heap.size w w') => hasSt_any st sa st.length sc w' rfl (by omega) (HS.out.kept hb))
  have KS := hid (fun w' a c (hr : Row w' a ([d.paid, d.cred].map (.int .i64))) => sum_anyN a 2 c [d.paid, d.cred] w' rfl hr (by simp))
  obtain ⟨s0, hs0⟩ : ∃ s0, sumFrom 0 [d.paid, d.cred] = s0 := ⟨_, rfl⟩
  rw [hs0] at KS ⊢
  have H1 := hid h1
  obtain ⟨res, hres⟩ : ∃ res, subAll s0 (lessAll d st) = res := ⟨_, rfl⟩
  rw [hres]
  have HRES := hid hres
  clear hres
  clear hs hd h2 h3 hs0 h1
  obtain ⟨W1, hW1⟩ : ∃ W1, W1 = w.alloc (.cells (docArr d D) 54) := ⟨_, rfl⟩
  have xd1 : docBox W1 w.heap.size d D := by rw [hW1]; exact Box.new rfl
  have b1 : Below w.heap.size w W1 := by rw [hW1]; exact below_alloc _ _
  have HI := hid i64row3
  unfold docArr at hW1
  have HW := hid hW1
  clear hW1
  unfold docAgg docArr
  go_enter Try.func30, Try.ntmps30
  go_wp2_with fail
  rw [← HW.out]
  refine (K.out _ b1).mono ?_
  rintro e w2 ⟨rfl, hb2⟩
  rw [show (st.any fun s => !stB s) = false from HB.out]
  have xd2 := xd1.kept hb2
  have b2 := bt b1 hb2
  have XD2 := hid xd2
  have B2 := hid b2
  have k13 := xd2.paid
  have k12 := xd2.cred
  clear xd1 b1 hb2 HW K HB xd2 b2
  go_wp2_with fail
  refine (KS.out _ _ _ (row_new rfl)).mono ?_
  rintro e w3 ⟨rfl, hb3⟩
  have bb : Below w2.heap.size w2 w3 := bt (below_alloc _ _) hb3
  have xd3 := XD2.out.kept bb
  have B3 := hid (bt B2.out bb)
  have k14 := xd3.back
  have k15 := xd3.keptC
  have k16 := xd3.left
  have XD3 := hid xd3
  clear k13 k12 KS B2 XD2 hb3 bb xd3
  go_wp2
  go_loopw [10, 51] (fun s10 i wr => ∃ (k n : Nat) (v : Value) (L : List Int), k ≤ st.length ∧ i = .int .i64 k ∧ s10 = v ∧ n = L.length ∧ n ≤ 3 + k ∧ Hid (L = [d.back, d.kept, d.left] ++ lessZ ((st.zip d.vals).take k)) ∧ Aside (wr.ownsRow w3.heap.size 2 1 v n (L.map (.int .i64))) ∧ Aside (Below w3.heap.size w3 wr)) (fun _ i _ => st.length - (intOf i).toNat)
  case atStart =>
    refine ⟨0, 3, _, [d.back, d.kept, d.left], Nat.zero_le _, rfl, rfl, rfl, by omega, ?_, ?_, below_alloc _ _⟩
    · rw [List.take_zero]; rfl
    · have := World.ownsRow_lit (base := w3.heap.size) (e := 2) (size := 1) w3 #[.int .i64 d.back, .int .i64 d.kept, .int .i64 d.left] 3 (by simp) (by unfold maxLen; omega) rfl
      show World.ownsRow _ _ _ _ _ _ _
      simpa using this
  case round =>
    obtain ⟨k, n, v, L, hk, rfl, rfl, hn, hle, HL, O1, B1⟩ := hrel
    have hbs := B1.out.size
    by_cases hlt : k < st.length
    · have hv : k < d.vals.length := by have := H1.out; omega
      obtain ⟨b, off, rfl, c1⟩ := st_at (HS.out.kept (bt B3.out B1.out)) hlt
      have LY := hid (fun h => less_yes hlt hv h)
      have LN := hid (fun h => less_no hlt hv h)
      obtain ⟨b2, off2, hva, c2⟩ := int_at (HV.out.kept (bt B3.out B1.out)) hv
      have kv := (XD3.out.kept B1.out).vals
      rw [hva] at kv
      generalize st[k] = x at *
      generalize d.vals[k] = y at *
      by_cases hx : x ≤ 4
      · have HX := hid hx
        have hm1 : n + 1 ≤ maxLen := by unfold maxLen; omega
        have hm8 : (n + 1) * 8 ≤ 140737488355328 := by omega
        go_wp2_with (at_builtin; refine wpList_append_row_at rfl _ _ 27 rfl w3.heap.size 2 (.int .i64 0) 1 8 Try.underlying27 HI.out rfl (by decide) _ n _ rfl (World.ownsRow.alloc O1.out _) _ 1 1 [.int .i64 y] rfl (by simp) (row_new (by simp)) rfl (by simp [Value.oneCell']) hm1 hm8 (by simp; omega) ?_; intro v1 w4 ho1 hg1 hat1)
        have hg1' : (wr.alloc (.cells #[.int .i64 y] 2)).grownBy w4 u10.ownBlock := hg1
        have B4 : Aside (Below w3.heap.size w3 w4) := (B1.out.alloc B1.out.size _).grown hg1' (by simp; omega) (fun g e => (World.ownsRow.lt O1.out g e).1)
        have O4 : Aside (w4.ownsRow w3.heap.size 2 1 v1 (n + 1) ((L ++ [y]).map (.int .i64))) := by
          show World.ownsRow _ _ _ _ _ _ _
          rw [List.map_append]; exact ho1
        clear hg1 hg1' hat1 ho1 O1 B1 c1 c2 kv
        go_roundw
        case measure => simp [intOf]; omega
        case rel => exact ⟨_, _, _, _, ⟨k + 1, by omega, by go_num, n + 1, L ++ [y], by simp [hn], by omega, hid (by rw [HL.out, LY.out HX.out]; simp), O4, B4⟩, rfl, rfl, rfl, rfl⟩
      · have HX := hid hx
        go_wp2
        go_roundw
        case measure => simp [intOf]; omega
        case rel => exact ⟨k + 1, n, _, L, by omega, by go_num, rfl, hn, by omega, hid (by rw [HL.out, LN.out HX.out]), O1, B1⟩
    · obtain rfl : k = st.length := by omega
      obtain ⟨a', cap', hv, hr', -⟩ := row_of_owns (show wr.ownsRow w3.heap.size 2 1 u10 n _ from O1.out)
      subst hv
      have hL : L = lessAll d st := by rw [HL.out]; unfold lessAll; rw [less_all H1.out]
      have HR := hid hr'
      have HF := hid (show subAll s0 L = res by rw [hL]; exact HRES.out)
      have BR := hid (bt B3.out B1.out)
      have hL3 : L.length ≤ 1003 := by have := H1.out; omega
      subst hn
      obtain ⟨wl, hwl⟩ : ∃ wl, wl = wr := ⟨_, rfl⟩
      subst hwl
      clear HRES HL hL O1 B1 hr' k14 k15 k16 XD3 B3 HS HV HI hbs hk H1
      obtain ⟨o0, e0⟩ := s0
      go_wp2
      go_loopw [8, 9, 69] (fun s8 s9 i wr => ∃ (k : Nat) (o e : Int), k ≤ L.length ∧ i = .int .i64 k ∧ s8 = .int .i64 o ∧ s9 = .int .i64 e ∧ Hid (subAll (o0, e0) L = subAll (o, e) (L.drop k)) ∧ Aside (Below wl.heap.size wl wr)) (fun _ _ i _ => L.length - (intOf i).toNat)
      case atStart => exact ⟨0, o0, e0, Nat.zero_le _, rfl, rfl, rfl, rfl, Below.refl _ _⟩
      case round =>
        obtain ⟨k, o, e, hk, rfl, rfl, rfl, HE, BQ⟩ := hrel
        by_cases hlt : k < L.length
        · obtain ⟨b, off, rfl, c1⟩ := int_at (HR.out.kept BQ.out) hlt
          have HD := hid (subAll_drop (s := (o, e)) hlt)
          generalize L[k] = x at *
          by_cases he : e = 0
          · subst he
            have HD2 := hid (show subAll (o, 0) (L.drop k) = subAll (subI o x) (L.drop (k + 1)) from HD.out)
            clear HD
            have KK := hid (sub_any o x wr)
            go_wp2_with fail
            refine KK.out.mono ?_
            rintro e' w5 ⟨rfl, hb5⟩
            go_wp2
            go_roundw
            case measure => simp [intOf]; omega
            case rel => exact ⟨k + 1, (subI o x).1, (subI o x).2, by omega, by go_num, rfl, rfl, hid (HE.out.trans HD2.out), bt BQ.out hb5⟩
          · have q3 : (e == 0) = false := by simpa using he
            have HD2 := hid (show subAll (o, e) (L.drop k) = subAll (o, e) (L.drop (k + 1)) by rw [HD.out]; unfold subStep; rw [if_neg he])
            clear HD
            go_wp2
            go_roundw
            case measure => simp [intOf]; omega
            case rel => exact ⟨k + 1, o, e, by omega, by go_num, rfl, rfl, hid (HE.out.trans HD2.out), BQ⟩
        · obtain rfl : k = L.length := by omega
          have HZ := hid (show res = (o, e) by rw [← HF.out, HE.out, List.drop_length]; rfl)
          go_wp2
          go_ret2
          refine ⟨?_, bt BR.out BQ.out⟩
          rw [HZ.out]
          rfl

theorem balance_anyV (d : DocV) (D : DocA) (st : List Int) (sa : Option Addr) (sn sc : Nat) (pa : Option Addr) (pl pc : Nat) (w : World) (hn : st.length = sn) (hs : Row w sa (st.map (.int .u8))) (hd : Row w D.va (d.vals.map (.int .i64)))
    (ls : st.length ≤ 1000) (lv : d.vals.length ≤ 1000) (lp : pl ≤ 1000) :
    Calls Try.prog 30 #[docAgg d D, .slice sa sn sc, .slice pa pl pc] w fun e w' => e = .returned (.tuple #[.int .i64 (balI d st pl).1, .int .i64 (balI d st pl).2]) ∧ Below w.heap.size w w' := by
  subst hn
  unfold balI
  by_cases hb : balOk d st pl
  · rw [if_pos hb]; exact balance_yes d D st sa sc pa pl pc w hs hd lv hb
  · rw [if_neg hb]; exact balance_no d D st sa sc pa pl pc w hs ls lv lp hb
theorem balance_any (d : DocV) (D : DocA) (st : List Int) (sa : Option Addr) (sn sc : Nat) (pa : Option Addr) (pl pc : Nat) (w : World) (hn : st.length = sn) (hs : Row w sa (st.map (.int .u8))) (hd : DocAt w d D)
    (ls : st.length ≤ 1000) (lv : d.vals.length ≤ 1000) (lp : pl ≤ 1000) :
    Calls Try.prog 30 #[docAgg d D, .slice sa sn sc, .slice pa pl pc] w fun e w' => e = .returned (.tuple #[.int .i64 (balI d st pl).1, .int .i64 (balI d st pl).2]) ∧ Below w.heap.size w w' :=
  balance_anyV d D st sa sn sc pa pl pc w hn hs hd.vals ls lv lp
end Go.Proofs.Ytijldpkchmpjkaa
