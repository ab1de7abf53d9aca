/- TicketGives: the walk. -/
import Derived.Test.YtijldpkchmpjkaaTick21
import Derived.Test.YtijldpkchmpjkaaBoxLoad
namespace Go.Proofs.Ytijldpkchmpjkaa
open Go.RowKit Go.Lib Go.Tk Go.Sort Go.Shelf
attribute [-go_sem] loadCellsFrom

theorem docBox.sale {w : World} {b : Nat} {d : DocV} {D : DocA} (h : docBox w b d D) : Sem.run Try.prog (loadCellsFrom ⟨b, 2, none⟩ 0 5 #[]) w = .ok #[.string d.s.name, .slice D.S.la d.s.legs.length D.S.lc, .int .i64 d.s.fare, .slice D.S.ta d.s.taxes.length D.S.tc, .int .i64 d.s.pen] w :=
  box_part h _ rfl (fun j v hj => by
    rcases j with _ | _ | _ | _ | _ | j
    · exact hj
    · exact hj
    · exact hj
    · exact hj
    · exact hj
    · simp at hj)
theorem docBox.whole {w : World} {b : Nat} {d : DocV} {D : DocA} (h : docBox w b d D) : Sem.run Try.prog (loadCellsFrom ⟨b, 0, none⟩ 0 17 #[]) w = .ok (docArr d D) w := box_whole h rfl

set_option maxRecDepth 100000 in
set_option maxHeartbeats 4000000 in
theorem gives_great (v p : Int) (d : DocV) (D : DocA) (sa : Option Addr) (sn sc : Nat) (pa : Option Addr) (pl pc : Nat) (w : World) (h1 : d.s.legs.length ≤ maxLen) (h2 : d.s.taxes.length ≤ maxLen) (h3 : d.s.name.size ≤ maxLen)
    (_h4 : d.vals.length ≤ maxLen) (_h5 : sn ≤ maxLen) (_h6 : pl ≤ maxLen) (hg : greatB d.s = true ∨ 60 < d.vals.length ∨ 60 < sn ∨ 60 < pl) :
    Calls Try.prog 11 #[.int .i64 v, .int .i64 p, docAgg d D, .slice sa sn sc, .slice pa pl pc] w fun e w' => e = .returned (.bool true) ∧ Below w.heap.size w w' := by
  have K1 := hid (fun w' => great_any d.s D.S w' h1 h2 h3)
  unfold saleAgg at K1
  obtain ⟨W1, hW1⟩ : ∃ W1, W1 = w.alloc (.cells (docArr d D) 54) := ⟨_, rfl⟩
  have xd1 : docBox W1 w.heap.size d D := by rw [hW1]; exact Box.new rfl
  have b1 : Below w.heap.size w W1 := by rw [hW1]; exact below_alloc _ _
  unfold docArr at hW1
  have HW := hid hW1
  have ld := xd1.sale
  rw [hW1] at ld
  clear hW1 h1 h2 h3
  unfold docAgg docArr
  go_enter Try.func11, Try.ntmps11
  go_wp2_with fail
  rw [← HW.out]
  refine (K1.out _).mono ?_
  rintro e w2 ⟨rfl, hb2⟩
  have kv := (xd1.kept hb2).vals
  have B2 := hid (bt b1 hb2)
  clear ld xd1 b1 hb2 HW K1
  cases hq : greatB d.s with
  | true =>
    go_wp2_with fail
    refine (wakes9 _).mono ?_
    rintro e w3 ⟨rfl, hb3⟩
    go_wp2
    go_ret
    exact ⟨rfl, bt B2.out hb3⟩
  | false =>
    have hg' : 60 < d.vals.length ∨ 60 < sn ∨ 60 < pl := by rcases hg with h | h; exact absurd (hq.symm.trans h) (by decide); exact h
    clear hg hq
    by_cases c1 : 60 < d.vals.length
    · go_wp2_with fail
      refine (wakes9 _).mono ?_
      rintro e w3 ⟨rfl, hb3⟩
      go_wp2
      go_ret
      exact ⟨rfl, bt B2.out hb3⟩
    by_cases c2 : 60 < sn
    · go_wp2_with fail
      refine (wakes9 _).mono ?_
      rintro e w3 ⟨rfl, hb3⟩
      go_wp2
      go_ret
      exact ⟨rfl, bt B2.out hb3⟩
    have c3 : 60 < pl := by omega
    go_wp2_with fail
    refine (wakes9 _).mono ?_
    rintro e w3 ⟨rfl, hb3⟩
    go_wp2
    go_ret
    exact ⟨rfl, bt B2.out hb3⟩

set_option maxRecDepth 100000 in
set_option maxHeartbeats 8000000 in
theorem gives_small (v p : Int) (d : DocV) (D : DocA) (st : List Int) (sa : Option Addr) (sn sc : Nat) (pa : Option Addr) (pl pc : Nat) (w : World) (hs : Row w sa (st.map (.int .u8))) (hn : st.length = sn) (hd : DocAt w d D) (ok : DocOk d)
    (h1 : d.s.legs.length ≤ maxLen) (h2 : d.s.taxes.length ≤ maxLen) (h3 : d.s.name.size ≤ maxLen) (iv : I64 v) (ip : I64 p)
    (hg : greatB d.s = false) (h4 : d.vals.length ≤ 60) (h5 : sn ≤ 60) (h6 : pl ≤ 60) :
    Calls Try.prog 11 #[.int .i64 v, .int .i64 p, docAgg d D, .slice sa sn sc, .slice pa pl pc] w fun e w' => e = .returned (.bool true) ∧ Below w.heap.size w w' := by
  have K1 := hid (fun w' => great_any d.s D.S w' h1 h2 h3)
  unfold saleAgg at K1
  have HG := hid hg
  have KB := hid (fun w' (hb : Below w.heap.size w w') => balance_any d D st sa sn sc pa pl pc w' hn (hs.kept hb) (hd.kept hb) (by omega) (by omega) (by omega))
  have KR := hid (fun w' (hb : Below w.heap.size w w') => rbalance_any d D st sa sn sc pa pl pc w' hn (hs.kept hb) (hd.kept hb) (by omega))
  rw [← bal_law d st pl ok] at KR
  have G1 := hid (fun w' => give_any v p w' iv.2 ip.2)
  have G2 := hid (fun w' => rgive_any v p w' iv.2 ip.2)
  generalize balI d st pl = bal at KB KR
  generalize giveV v p = gv at G1 G2
  generalize giveK v p = gk at G1 G2
  obtain ⟨W1, hW1⟩ : ∃ W1, W1 = w.alloc (.cells (docArr d D) 54) := ⟨_, rfl⟩
  have xd1 : docBox W1 w.heap.size d D := by rw [hW1]; exact Box.new rfl
  have b1 : Below w.heap.size w W1 := by rw [hW1]; exact below_alloc _ _
  unfold docArr at hW1
  have HW := hid hW1
  have ld := xd1.sale
  rw [hW1] at ld
  clear hW1 h1 h2 h3 hs hd hn ok iv ip hg
  unfold docAgg docArr at KB KR ⊢
  go_enter Try.func11, Try.ntmps11
  go_wp2_with fail
  rw [← HW.out]
  refine (K1.out _).mono ?_
  rintro e w2 ⟨rfl, hb2⟩
  rw [HG.out]
  have kv := (xd1.kept hb2).vals
  have XD2 := hid (xd1.kept hb2)
  have B2 := hid (bt b1 hb2)
  clear ld xd1 b1 hb2 HW K1
  go_wp2_with fail
  refine (G1.out _).mono ?_
  rintro e w3 ⟨rfl, rfl⟩
  go_wp2_with fail
  refine (G2.out _).mono ?_
  rintro e w3 ⟨rfl, hb3⟩
  have XD3 := hid (XD2.out.kept hb3)
  have B3 := hid (bt B2.out hb3)
  have ld := XD3.out.whole
  unfold docArr at ld
  clear hb3 XD2 B2 kv G1 G2
  go_wp2_with fail
  refine (KB.out _ B3.out).mono ?_
  rintro e w4 ⟨rfl, hb4⟩
  have XD4 := hid (XD3.out.kept hb4)
  have B4 := hid (bt B3.out hb4)
  clear ld
  have ld := XD4.out.whole
  unfold docArr at ld
  clear hb4 XD3 B3 KB
  go_wp2_with fail
  refine (KR.out _ B4.out).mono ?_
  rintro e w5 ⟨rfl, hb5⟩
  have B5 := hid (bt B4.out hb5)
  clear ld hb5 XD4 B4 KR
  go_wp2_with fail
  refine (wakes9 _).mono ?_
  rintro e w6 ⟨rfl, hb6⟩
  go_wp2
  go_ret
  exact ⟨rfl, bt B5.out hb6⟩
end Go.Proofs.Ytijldpkchmpjkaa
