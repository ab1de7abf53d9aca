/- TICKET 21: a document's balance, by the document. -/
import Derived.Test.YtijldpkchmpjkaaTick20
namespace Go.Proofs.Ytijldpkchmpjkaa
open Go.RowKit Go.Lib Go.Tk Go.Sort Go.Shelf

set_option maxRecDepth 100000 in
set_option maxHeartbeats 4000000 in
/-- where the lengths do not fit, or a status is none -/
theorem rbalance_no (d : DocV) (D : DocA) (st : List Int) (sa : Option Addr) (sc : Nat) (pa : Option Addr) (pl pc : Nat) (w : World) (hs : Row w sa (st.map (.int .u8)))
    (lv : d.vals.length ≤ 1000) (hb : ¬ balOk d st pl) :
    Calls Try.prog 31 #[docAgg d D, .slice sa st.length sc, .slice pa pl pc] w fun e w' => e = .returned (.tuple #[.int .i64 0, .int .i64 1]) ∧ Below w.heap.size w w' := by
  have HS := hid hs
  clear hs
  unfold docAgg docArr
  by_cases h1 : st.length = d.vals.length
  case neg =>
    have q : ((st.length : Int) != (d.vals.length : Int)) = true := by rw [bne_iff_ne]; omega
    clear hb
    go_enter Try.func31, Try.ntmps31
    go_wp2_with fail
    go_ret2
    exact ⟨rfl, below_alloc _ _⟩
  case pos =>
  by_cases h2 : pl = d.vals.length
  case neg =>
    have q : ((st.length : Int) != (d.vals.length : Int)) = false := by simp [h1]
    have q2 : ((pl : Int) != (d.vals.length : Int)) = true := by rw [bne_iff_ne]; omega
    clear hb
    go_enter Try.func31, Try.ntmps31
    go_wp2_with fail
    go_ret2
    exact ⟨rfl, below_alloc _ _⟩
  case pos =>
    have q : ((st.length : Int) != (d.vals.length : Int)) = false := by simp [h1]
    have q2 : ((pl : Int) != (d.vals.length : Int)) = false := by simp [h2]
    have hbad : badSt st = true := by
      cases hq : badSt st with
      | true => rfl
      | false => exact absurd ⟨h1, h2, hq⟩ hb
    have HB := hid hbad
    have l3 : st.length ≤ 1000 := by omega
    clear hb hbad h1 h2
    go_enter Try.func31, Try.ntmps31
    go_wp2_with fail
    go_loopw [8] (fun i wr => ∃ k : Nat, k ≤ st.length ∧ i = .int .i64 k ∧ Hid ((st.take k).any (fun s => !stB s) = false) ∧ Aside (Below w.heap.size w wr)) (fun i _ => st.length - (intOf i).toNat)
    case atStart => exact ⟨0, Nat.zero_le _, rfl, rfl, below_alloc _ _⟩
    case round =>
      obtain ⟨k, hk, rfl, H, B⟩ := hrel
      by_cases hlt : k < st.length
      · obtain ⟨b, off, rfl, c1⟩ := st_at (HS.out.kept B.out) hlt
        have HN := hid (any_take_succ (p := fun s => !stB s) hlt)
        generalize st[k] = x at *
        cases hp : stB x with
        | false =>
          go_wp2_with fail
          refine (ris_anyT _ _).mono ?_
          rintro e w' ⟨rfl, rfl⟩
          rw [hp]
          clear hp
          go_wp2
          go_ret2
          exact ⟨rfl, B.out⟩
        | true =>
          have HU := hid hp
          go_wp2_with fail
          refine (ris_anyT _ _).mono ?_
          rintro e w' ⟨rfl, rfl⟩
          rw [hp]
          clear hp
          go_wp2
          go_roundw
          case rel => exact ⟨k + 1, by omega, by go_num, hid (by rw [HN.out, H.out, HU.out]; rfl), B.out⟩
          case measure => simp [intOf]; omega
      · obtain rfl : k = st.length := by omega
        have := H.out
        rw [List.take_length] at this
        exact absurd (this.symm.trans HB.out) (by decide)

set_option maxRecDepth 100000 in
set_option maxHeartbeats 8000000 in
theorem rbalance_yes (d : DocV) (D : DocA) (st : List Int) (sa : Option Addr) (sc : Nat) (pa : Option Addr) (pl pc : Nat) (w : World) (hs : Row w sa (st.map (.int .u8))) (hd : DocAt w d D)
    (lv : d.vals.length ≤ 1000) (hb : balOk d st pl) :
    Calls Try.prog 31 #[docAgg d D, .slice sa st.length sc, .slice pa pl pc] w fun e w' => e = .returned (.tuple #[.int .i64 (goSum d.paid (rlist d st)).1, .int .i64 (goSum d.paid (rlist d st)).2]) ∧ Below w.heap.size w w' := by
  have HS := hid hs
  have HV := hid hd.vals
  obtain ⟨h1, h2, h3⟩ := hb
  have HB := hid h3
  have q : ((st.length : Int) != (d.vals.length : Int)) = false := by simp [h1]
  have q2 : ((pl : Int) != (d.vals.length : Int)) = false := by simp [h2]
  have l3 : st.length ≤ 1000 := by omega
  obtain ⟨res, hres⟩ : ∃ res, goSum d.paid (rlist d st) = res := ⟨_, rfl⟩
  rw [hres]
  have HRES := hid hres
  have H1 := hid h1
  clear hs hd h2 h3 hres h1
  have HI := hid i64row3
  obtain ⟨W1, hW1⟩ : ∃ W1, W1 = w.alloc (.cells (docArr d D) 54) := ⟨_, rfl⟩
  have XD1 := hid (show docBox W1 w.heap.size d D by rw [hW1]; exact Box.new rfl)
  have B1 := hid (show Below w.heap.size w W1 by rw [hW1]; exact below_alloc _ _)
  unfold docArr at hW1
  have HW := hid hW1
  clear hW1
  unfold docAgg docArr
  go_enter Try.func31, Try.ntmps31
  go_wp2_with fail
  rw [← HW.out]
  go_loopw [8] (fun i wr => ∃ k : Nat, k ≤ st.length ∧ i = .int .i64 k ∧ Aside (Below W1.heap.size W1 wr)) (fun i _ => st.length - (intOf i).toNat)
  case atStart => exact ⟨0, Nat.zero_le _, rfl, Below.refl _ _⟩
  case round =>
    obtain ⟨k, hk, rfl, B⟩ := hrel
    by_cases hlt : k < st.length
    · obtain ⟨b, off, rfl, c1⟩ := st_at (HS.out.kept (bt B1.out B.out)) hlt
      have hp : stB st[k] = true := by
        cases hq : stB st[k] with
        | true => rfl
        | false => exact absurd (any_at (p := fun s => !stB s) hlt (by simp [hq])) (by have := HB.out; unfold badSt at this; rw [this]; decide)
      generalize st[k] = x at *
      have HU := hid hp
      clear hp
      go_wp2_with fail
      refine (ris_anyT _ _).mono ?_
      rintro e w' ⟨rfl, rfl⟩
      rw [HU.out]
      go_wp2
      go_roundw
      case rel => exact ⟨k + 1, by omega, by go_num, B.out⟩
      case measure => simp [intOf]; omega
    · have hbs := B.out.size
      have xd := XD1.out.kept B.out
      have k12 := xd.cred
      have k13 := xd.paid
      have k14 := xd.back
      have k15 := xd.keptC
      have k16 := xd.left
      have B3 := hid (bt B1.out B.out)
      have XD3 := hid xd
      clear xd B1 XD1 HW HB B
      obtain ⟨w3, hw3⟩ : ∃ w3, w3 = wr := ⟨_, rfl⟩
      subst hw3
      go_wp2_with fail
      go_loopw [9, 10] (fun s9 i wr => ∃ (k : Nat) (L : List Int), k ≤ st.length ∧ i = .int .i64 k ∧ Hid (L = [d.cred, negI d.back, negI d.kept, negI d.left] ++ (lessZ ((st.zip d.vals).take k)).map negI) ∧ L.length ≤ 4 + k ∧ Aside (wr.ownsRow w3.heap.size 2 1 s9 L.length (L.map (.int .i64))) ∧ Aside (Below w3.heap.size w3 wr)) (fun _ i _ => st.length - (intOf i).toNat)
      case atStart =>
        refine ⟨0, [d.cred, negI d.back, negI d.kept, negI d.left], Nat.zero_le _, rfl, ?_, by simp, ?_, below_alloc _ _⟩
        · rw [List.take_zero]; rfl
        · have := World.ownsRow_lit (base := w3.heap.size) (e := 2) (size := 1) w3 #[.int .i64 d.cred, .int .i64 (wrap64 (-d.back)), .int .i64 (wrap64 (-d.kept)), .int .i64 (wrap64 (-d.left))] 4 (by simp) (by unfold maxLen; omega) rfl
          show World.ownsRow _ _ _ _ _ _ _
          simpa [negI] using this
      case round =>
        obtain ⟨k, L, hk, rfl, HL, hle, O1, B1⟩ := hrel
        have hbs := B1.out.size
        by_cases hlt : k < st.length
        · have hv : k < d.vals.length := by have := H1.out; omega
          obtain ⟨b, off, rfl, c1⟩ := st_at (HS.out.kept (bt B3.out B1.out)) hlt
          have LY := hid (fun h => less_yes hlt hv h)
          have LN := hid (fun h => less_no hlt hv h)
          obtain ⟨b2, off2, hva, c2⟩ := int_at (HV.out.kept (bt B3.out B1.out)) hv
          have kv := (XD3.out.kept B1.out).vals
          rw [hva] at kv
          generalize st[k] = x at *
          generalize d.vals[k] = y at *
          by_cases hx : x ≤ 4
          · have HX := hid hx
            have hm1 : L.length + 1 ≤ maxLen := by unfold maxLen; omega
            have hm8 : (L.length + 1) * 8 ≤ 140737488355328 := by omega
            go_wp2_with (at_builtin; refine wpList_append_row_at rfl _ _ 27 rfl w3.heap.size 2 (.int .i64 0) 1 8 Try.underlying27 HI.out rfl (by decide) _ L.length _ rfl (World.ownsRow.alloc O1.out _) _ 1 1 [.int .i64 (wrap64 (-y))] rfl (by simp) (row_new (by simp)) rfl (by simp [Value.oneCell']) hm1 hm8 (by simp; omega) ?_; intro v1 w4 ho1 hg1 hat1)
            have hg1' : (wr.alloc (.cells #[.int .i64 (wrap64 (-y))] 2)).grownBy w4 u9.ownBlock := hg1
            have B4 : Aside (Below w3.heap.size w3 w4) := (B1.out.alloc B1.out.size _).grown hg1' (by simp; omega) (fun g e => (World.ownsRow.lt O1.out g e).1)
            have O4 : Aside (w4.ownsRow w3.heap.size 2 1 v1 (L ++ [negI y]).length ((L ++ [negI y]).map (.int .i64))) := by
              show World.ownsRow _ _ _ _ _ _ _
              rw [List.map_append, List.length_append]; exact ho1
            clear hg1 hg1' hat1 ho1 O1 B1 c1 c2 kv
            go_roundw
            case measure => simp [intOf]; omega
            case rel => exact ⟨k + 1, by omega, by omega, L ++ [negI y], hid (by rw [HL.out, LY.out HX.out]; simp), by simp; omega, O4, B4⟩
          · have HX := hid hx
            go_wp2
            go_roundw
            case measure => simp [intOf]; omega
            case rel => exact ⟨k + 1, L, by omega, by go_num, hid (by rw [HL.out, LN.out (by omega)]), by omega, O1, B1⟩
        · obtain rfl : k = st.length := by omega
          obtain ⟨a', cap', hv, hr', -⟩ := row_of_owns (show wr.ownsRow w3.heap.size 2 1 u9 L.length _ from O1.out)
          subst hv
          have hL : L = rlist d st := by rw [HL.out]; unfold rlist; rw [less_all H1.out]
          have HR := hid hr'
          have HF := hid (show goSum d.paid L = res by rw [hL]; exact HRES.out)
          have BR := hid (bt B3.out B1.out)
          have xd := XD3.out.kept B1.out
          have k13 := xd.paid
          have hL3 : L.length ≤ 1004 := by omega
          obtain ⟨wl, hwl⟩ : ∃ wl, wl = wr := ⟨_, rfl⟩
          subst hwl
          clear HRES HL hL O1 B1 hr' k12 k14 k15 k16 XD3 B3 HS HV HI hbs hk H1 xd q q2
          cases hp : mayI d.paid with
          | false =>
            have HP := hid (show res = (0, 7) by rw [← HF.out]; unfold goSum; rw [hp]; rfl)
            go_wp2_with fail
            refine (rmay_any _ _).mono ?_
            rintro e w5 ⟨rfl, rfl⟩
            rw [hp]
            clear hp
            go_wp2
            go_ret2
            refine ⟨?_, BR.out⟩
            rw [HP.out]
            rfl
          | true =>
            have HP := hid (show sumFrom d.paid L = res by rw [← HF.out]; unfold goSum; rw [hp]; rfl)
            have HM := hid hp
            generalize d.paid = o0 at *
            go_wp2_with fail
            refine (rmay_any _ _).mono ?_
            rintro e w5 ⟨rfl, rfl⟩
            rw [hp]
            clear hp HF
            go_wp2
            go_loopw [11, 12] (fun s11 i wr => ∃ (k : Nat) (o : Int), k ≤ L.length ∧ i = .int .i64 k ∧ s11 = .int .i64 o ∧ Hid (mayI o = true) ∧ Hid (sumFrom o0 L = sumFrom o (L.drop k)) ∧ Aside (Below wl.heap.size wl wr)) (fun _ i _ => L.length - (intOf i).toNat)
            case atStart => exact ⟨0, o0, Nat.zero_le _, rfl, rfl, HM.out, rfl, Below.refl _ _⟩
            case round =>
              obtain ⟨k, o, hk, rfl, rfl, HO, HE, BQ⟩ := hrel
              by_cases hlt : k < L.length
              · obtain ⟨b, off, rfl, c1⟩ := int_at (HR.out.kept BQ.out) hlt
                have HD := hid (List.drop_eq_getElem_cons hlt)
                generalize L[k] = x at *
                cases hx : mayI x with
                | false =>
                  have HZ := hid (show res = (0, 7) by rw [← HP.out, HE.out, HD.out, sumFrom]; unfold addI; rw [hx]; simp)
                  go_wp2_with fail
                  refine (rmay_any _ _).mono ?_
                  rintro e w5 ⟨rfl, rfl⟩
                  rw [hx]
                  clear hx
                  go_wp2
                  go_ret2
                  refine ⟨?_, bt BR.out BQ.out⟩
                  rw [HZ.out]
                  rfl
                | true =>
                  have b1 := mayI_of hx
                  have b2 := mayI_of HO.out
                  have HX := hid hx
                  cases hy : mayI (o + x) with
                  | false =>
                    have HZ := hid (show res = (0, 7) by rw [← HP.out, HE.out, HD.out, sumFrom]; unfold addI; rw [hy]; simp)
                    go_wp2_with fail
                    refine (rmay_any _ _).mono ?_
                    rintro e w5 ⟨rfl, rfl⟩
                    rw [hx]
                    clear hx
                    go_wp2_with fail
                    refine (rmay_any _ _).mono ?_
                    rintro e w5 ⟨rfl, rfl⟩
                    rw [hy]
                    clear hy
                    go_wp2
                    go_ret2
                    refine ⟨?_, bt BR.out BQ.out⟩
                    rw [HZ.out]
                    rfl
                  | true =>
                    have HY := hid hy
                    have HZ := hid (show sumFrom o0 L = sumFrom (o + x) (L.drop (k + 1)) by
                      have e : addI o x = (o + x, 0) := by unfold addI; rw [HO.out, hx, hy]; rfl
                      rw [HE.out, HD.out, sumFrom, e]; rfl)
                    go_wp2_with fail
                    refine (rmay_any _ _).mono ?_
                    rintro e w5 ⟨rfl, rfl⟩
                    rw [hx]
                    clear hx
                    go_wp2_with fail
                    refine (rmay_any _ _).mono ?_
                    rintro e w5 ⟨rfl, rfl⟩
                    rw [hy]
                    clear hy
                    go_wp2
                    go_roundw
                    case measure => simp [intOf]; omega
                    case rel => exact ⟨k + 1, o + x, by omega, by go_num, by go_num, HY, HZ, BQ.out⟩
              · obtain rfl : k = L.length := by omega
                have HZ := hid (show res = (o, 0) by rw [← HP.out, HE.out, List.drop_length]; rfl)
                go_wp2
                go_ret2
                refine ⟨?_, bt BR.out BQ.out⟩
                rw [HZ.out]
                rfl

theorem rbalance_any (d : DocV) (D : DocA) (st : List Int) (sa : Option Addr) (sn sc : Nat) (pa : Option Addr) (pl pc : Nat) (w : World) (hn : st.length = sn) (hs : Row w sa (st.map (.int .u8))) (hd : DocAt w d D)
    (lv : d.vals.length ≤ 1000) :
    Calls Try.prog 31 #[docAgg d D, .slice sa sn sc, .slice pa pl pc] w fun e w' => e = .returned (.tuple #[.int .i64 (rbalI d st pl).1, .int .i64 (rbalI d st pl).2]) ∧ Below w.heap.size w w' := by
  subst hn
  unfold rbalI
  by_cases hb : balOk d st pl
  · rw [if_pos hb]; exact rbalance_yes d D st sa sc pa pl pc w hs hd lv hb
  · rw [if_neg hb]; exact rbalance_no d D st sa sc pa pl pc w hs lv hb
end Go.Proofs.Ytijldpkchmpjkaa
