/- Lw16e, HoP2, HoP3, HoP4, PostPlain, BoxLoad, PostAct, Lw16f, Lw16n, Ex8, Vals, Ex9, EbW4, BkC1, BkC2, BkC3. -/
import Derived.Test.YtnkghdakjdhhdaaGreatMbb02bef
import Derived.Test.YtnkghdakjdhhdaaGreatM64f4c37
import Derived.Shelf.SlicesQ.Load
import Derived.Test.YtnkghdakjdhhdaaGreatRows
import Derived.Test.YtnkghdakjdhhdaaGreatM289763c
import Derived.Test.YtnkghdakjdhhdaaGreatM911b15a
import Derived.Test.YtnkghdakjdhhdaaGreatM467ed32
import Derived.Test.YtnkghdakjdhhdaaGreatM533403a
import Derived.Shelf.SlMaps.Clone
section
namespace Go.Proofs.YtnkghdakjdhhdaaGreat
set_option maxRecDepth 100000
open Go.RowKit Go.Lib Go.Tk Go.Shelf Go.Vc Go.Sx
set_option linter.unusedVariables false
set_option linter.unusedSimpArgs false

theorem own_at1 : ∃ v, lkt ((bookNew 0 3).issued sale16).owns (keyA 1) = some (ownNew ⟨1, 0, 1⟩ v) := by
  have hl : (shareV sale16.fare (wsOf sale16)).length = 2 := shareV_len (show shareE sale16.fare (wsOf sale16) = 0 by kernel_rfl)
  show ∃ v, lkt (issO (bookNew 0 3).nextT sale16 (shareV sale16.fare (wsOf sale16)) [] (shareV sale16.fare (wsOf sale16)).length) (keyA 1) = _
  rw [hl]
  generalize shareV sale16.fare (wsOf sale16) = vs
  exact ⟨vs.getD 1 0, rfl⟩
def MineF : Nat := 50
theorem mine_back : CallOK Tryz.prog MineF [.val (.int .u8 5)] [] [] (.val (.bool true)) [] := callOK_run 400 [] (by kernel_rfl) (by kernel_rfl)
theorem mine_bill : CallOK Tryz.prog MineF [.val (.int .u8 6)] [] [] (.val (.bool false)) [] := callOK_run 400 [] (by kernel_rfl) (by kernel_rfl)
def wantB : BookV := { bookNew 1 3 with helds := [(keyA 1, wantH held0)] }
def heldK (v : Int) : Cpn := ⟨⟨1, 0, 1⟩, v, 1, 1⟩
def heldB (v : Int) : BookV := { bookNew 1 3 with helds := [(keyA 1, newH (heldK v))] }
def givenA (v : Int) : OwnV := ⟨heldK v, true, 1, false, false⟩
theorem keyA_ok {j : Int} (h1 : 0 ≤ j) (h2 : j ≤ 255) : KidOk (keyA j) := ⟨⟨⟨by show (0 : Int) ≤ 0; decide, by show (0 : Int) ≤ 255; decide⟩, by show (0 : Int) ≤ 1; decide, by show (1 : Int) ≤ _; decide⟩, h1, h2⟩
theorem wakes16_w : CallOK Tryz.prog WakesF16 [] [] [] (.val (.bool true)) [] := by
  obtain ⟨v, hv⟩ := own_at1
  have n1 := new_okC (self := 0) (n := 3) (by decide) (by decide)
  have n2 := new_okC (self := 1) (n := 3) (by decide) (by decide)
  have n3 := known16_w
  have n4 := issue_okR (book_new_ok 0 3 (by decide)) sale16_ok iss16
  have n5 := mine_back
  have n6 := mine_bill
  have hself : ((bookNew 0 3).issued sale16).self = 0 := rfl
  have hn : ((bookNew 0 3).issued sale16).n = 3 := rfl
  generalize (bookNew 0 3).issued sale16 = A at *
  have k1 : KidOk (keyA 1) := keyA_ok (by decide) (by decide)
  have c1 := want_c (bookNew 1 3) k1
  rw [show wantQ (bookNew 1 3) (keyA 1) = ⟨[⟨0, ⟨1, keyA 1, cpn0, 0, 0⟩⟩], 0, wantB⟩ from rfl] at c1
  have c2 := hear_c A (c := 1) (by decide) ⟨1, keyA 1, cpn0, 0, 0⟩ (by decide) k1
  rw [show hearQ A 1 ⟨1, keyA 1, cpn0, 0, 0⟩ = ⟨[⟨1, ⟨2, keyA 1, heldK v, 0, 0⟩⟩], 0, A.setO (keyA 1) (givenA v)⟩ by unfold hearQ badHear hearDo hwantQ; rw [hself, hn, hv]; rfl] at c2
  have c3 := hear_c wantB (c := 0) (by decide) ⟨2, keyA 1, heldK v, 0, 0⟩ ⟨by show (0 : Int) ≤ 2; decide, by show (2 : Int) ≤ 255; decide⟩ k1
  rw [show hearQ wantB 0 ⟨2, keyA 1, heldK v, 0, 0⟩ = ⟨[], 0, heldB v⟩ from rfl] at c3
  have c4 := held_c (heldB v) k1
  rw [show lkt (heldB v).helds (keyA 1) = some (newH (heldK v)) from rfl] at c4
  have c5 := own_c (A.setO (keyA 1) (givenA v)) k1
  rw [setO_some hv] at c5 c2
  rw [show lkt ({ A with owns := putt A.owns (keyA 1) (givenA v) } : BookV).owns (keyA 1) = some (givenA v) by show lkt (putt A.owns (keyA 1) (givenA v)) (keyA 1) = _; rw [lkt_put, if_pos rfl]] at c5
  exact callOK_run 400 [hC 1 0 n1, hC 2 0 n2, hC 3 1 n3, hC 3 2 n4, hC 5 2 c1, hC 8 5 c2, hC 11 5 c3, hC 12 2 c4, hC 13 2 c5, hC 14 29 n5, hC 14 32 n6] (by kernel_rfl) (by kernel_rfl)
end Go.Proofs.YtnkghdakjdhhdaaGreat
end
section
namespace Go.Proofs.YtnkghdakjdhhdaaGreat
set_option maxRecDepth 100000
open Go.RowKit Go.Lib Go.Tk Go.Shelf Go.Vc Go.Sx
set_option linter.unusedVariables false
set_option linter.unusedSimpArgs false

structure OneP (o : OwnV) (x : HeldV) (k : Kid) (D U : List MsV) : Prop where
  stay : o.away = false → nM 2 k D = 0 ∧ nM 5 k U = 0 ∧ x.here = false
  gone : o.away = true → o.dst = 1 ∧ nM 2 k D + nM 5 k U + (if x.here = true then 1 else 0) = 1
  dn : ∀ m ∈ D, m.kind = 2 → m.key = k → m.k.n = o.k.n
  upn : ∀ m ∈ U, m.kind = 5 → m.key = k → m.k.n = o.k.n
  hn : x.here = true → x.k.n = o.k.n
  le : x.k.n ≤ o.k.n
  lt : 0 < nM 2 k D → x.k.n < o.k.n
  lo : 0 ≤ o.k.n
  hi : o.k.n ≤ 4294967295
theorem nM_drop1 (kind : Int) (k : Kid) (l : List MsV) {m : MsV} (hm : m.kind = kind ∧ m.key = k) : nM kind k (m :: l) = nM kind k l + 1 := by
  show (if _ then 1 else 0) + _ = _; rw [if_pos hm]; omega
section
variable {o : OwnV} {x : HeldV} {k : Kid} {D U : List MsV} {m : MsV}
theorem OneP.own {o' : OwnV} (h : OneP o x k D U) (h1 : o'.away = o.away) (h2 : o'.dst = o.dst) (h3 : o'.k = o.k) : OneP o' x k D U :=
  ⟨by rw [h1]; exact h.stay, by rw [h1, h2]; exact h.gone, by rw [h3]; exact h.dn, by rw [h3]; exact h.upn, by rw [h3]; exact h.hn, by rw [h3]; exact h.le, by rw [h3]; exact h.lt, by rw [h3]; exact h.lo, by rw [h3]; exact h.hi⟩
theorem OneP.held {x' : HeldV} (h : OneP o x k D U) (h1 : x'.here = x.here) (h2 : x'.k = x.k) : OneP o x' k D U :=
  ⟨by rw [h1]; exact h.stay, by rw [h1]; exact h.gone, h.dn, h.upn, by rw [h1, h2]; exact h.hn, by rw [h2]; exact h.le, by rw [h2]; exact h.lt, h.lo, h.hi⟩
theorem OneP.away_of (h : OneP o x k D U) (h1 : x.here = true ∨ 0 < nM 2 k D ∨ 0 < nM 5 k U) : o.away = true := by
  rcases Bool.eq_false_or_eq_true o.away with e | e
  · exact e
  · have := h.stay e
    rcases h1 with h1 | h1 | h1
    · rw [this.2.2] at h1; cases h1
    · omega
    · omega
theorem OneP.back (h : OneP o x k D (m :: U)) (h1 : m.kind = 5) (h2 : m.key = k) : o.away = true ∧ o.dst = 1 ∧ o.k.n = m.k.n ∧ OneP (backO o) x k D U := by
  have hz := nM_drop1 5 k U (m := m) ⟨h1, h2⟩
  have hn := h.upn m List.mem_cons_self h1 h2
  have hp : 0 < nM 5 k (m :: U) := by omega
  have ha := h.away_of (.inr (.inr hp))
  have hg := h.gone ha
  rw [hz] at hg
  have hf : x.here = false := by
    rcases Bool.eq_false_or_eq_true x.here with e | e
    · rw [if_pos e] at hg; omega
    · exact e
  exact ⟨ha, hg.1, hn.symm, ⟨fun _ => ⟨by omega, by omega, hf⟩, (fun e => by cases e), h.dn, fun m' hm' e1 e2 => h.upn m' (List.mem_cons_of_mem _ hm') e1 e2, h.hn, h.le, h.lt, h.lo, h.hi⟩⟩
end
structure InvP (σ : HSt) : Prop where
  one : ∀ k ∈ keysA, ∃ o, lkt σ.a.owns k = some o ∧ OneP o ((lkt σ.b.helds k).getD held0) k σ.down σ.up
  sa : σ.a.self = 0
  na : σ.a.n = 2
  sb : σ.b.self = 1
  nb : σ.b.n = 2
  ow : ∀ k, (lkt σ.a.owns k).isSome = true → k ∈ keysA
  ob : σ.b.owns = []
  ha : σ.a.helds = []
  he : ∀ k, (lkt σ.b.helds k).isSome = true → k ∈ keysA
  nd : (σ.b.helds.map (·.1)).Nodup
  dk : ∀ m ∈ σ.down, m.key ∈ keysA ∧ (m.kind = 2 ∨ m.kind = 3 ∨ m.kind = 4)
  uk : ∀ m ∈ σ.up, m.key ∈ keysA ∧ (m.kind = 1 ∨ m.kind = 3 ∨ m.kind = 5)
theorem len_sub {α : Type} [DecidableEq α] : ∀ (l r : List α), l.Nodup → (∀ a ∈ l, a ∈ r) → l.length ≤ r.length
  | [], r, _, _ => Nat.zero_le _
  | a :: l, r, hn, hs => by
    rw [List.nodup_cons] at hn
    have hm := hs a List.mem_cons_self
    have := len_sub l (r.erase a) hn.2 (fun b hb => by
      have hne : b ≠ a := fun e => hn.1 (e ▸ hb)
      exact (List.mem_erase_of_ne hne).2 (hs b (List.mem_cons_of_mem _ hb)))
    rw [List.length_erase_of_mem hm] at this
    have hp : 0 < r.length := List.length_pos_of_mem hm
    simp only [List.length_cons]; omega
theorem keys_at {k : Kid} (h : k ∈ keysA) : ∃ i : Int, k = keyA i ∧ 0 ≤ i ∧ i ≤ 3 := by
  simp only [keysA, List.mem_cons, List.not_mem_nil, or_false] at h
  rcases h with rfl | rfl | rfl | rfl
  · exact ⟨0, rfl, by decide, by decide⟩
  · exact ⟨1, rfl, by decide, by decide⟩
  · exact ⟨2, rfl, by decide, by decide⟩
  · exact ⟨3, rfl, by decide, by decide⟩
theorem InvP.setHE {σ : HSt} (h : InvP σ) {k : Kid} (hk : k ∈ keysA) : σ.b.setHE k = 0 := by
  obtain ⟨i, rfl, h0, h1⟩ := keys_at hk
  have hb : σ.b.badK (keyA i) = false := by
    unfold BookV.badK
    rw [h.sb, h.nb]
    show (decide ((0 : Int) = 1) || (decide ((2 : Int) ≤ 0) || (decide ((1 : Int) < 1) || (decide ((9999999999 : Int) < 1) || decide (4 ≤ i))))) = false
    rw [decide_eq_false (show ¬ 4 ≤ i by omega)]; rfl
  have hl := len_sub _ keysA h.nd (fun a ha => h.he a (by
    cases e : lkt σ.b.helds a with
    | none => exact absurd ha (lkt_none.1 e)
    | some _ => rfl))
  rw [List.length_map] at hl
  have hl : σ.b.helds.length ≤ 4 := hl
  unfold BookV.setHE
  rw [hb, decide_eq_false (show ¬ 64 ≤ σ.b.helds.length by omega), Bool.and_false]; rfl
theorem InvP.setH {σ : HSt} (h : InvP σ) {k : Kid} (hk : k ∈ keysA) (x : HeldV) : σ.b.setH k x = { σ.b with helds := putt σ.b.helds k x } := by
  unfold BookV.setH; rw [h.setHE hk]; rfl
section
variable {A B : BookV} {D U D' U' : List MsV} {k : Kid}
end
end Go.Proofs.YtnkghdakjdhhdaaGreat
end
section
namespace Go.Proofs.YtnkghdakjdhhdaaGreat
set_option maxRecDepth 100000
open Go.RowKit Go.Lib Go.Tk Go.Shelf Go.Vc Go.Sx
set_option linter.unusedVariables false
set_option linter.unusedSimpArgs false

section
variable {A B : BookV} {D U : List MsV}
end
end Go.Proofs.YtnkghdakjdhhdaaGreat
end
section
namespace Go.Proofs.YtnkghdakjdhhdaaGreat
set_option maxRecDepth 100000
open Go.RowKit Go.Lib Go.Tk Go.Shelf Go.Vc Go.Sx
set_option linter.unusedVariables false
set_option linter.unusedSimpArgs false

end Go.Proofs.YtnkghdakjdhhdaaGreat
end
section
namespace Go.Proofs.YtnkghdakjdhhdaaGreat
open Go.RowKit Go.Lib Go.Tk

structure Msg where
  k : Int
  tc : Int
  tr : Int
  ix : Int
  lc : Int
  lf : Int
  lx : Int
  v : Int
  st : Int
  nn : Int
  amt : Int
  cd : Int
deriving DecidableEq, Inhabited
structure BoxV where
  wait : List Msg
  given : Int
  last : Int
structure PostV where
  self : Int
  n : Int
  box : Nat → BoxV
def PostV.other (P : PostV) (c : Int) : Bool := decide (0 ≤ c) && decide (c < P.n) && !decide (c = P.self)
def PostV.put (P : PostV) (c : Nat) (X : BoxV) : PostV := { P with box := fun i => if i = c then X else P.box i }
/-- the carriers that have a box -/
def PostV.cs (P : PostV) : List Nat := (List.range P.n.toNat).filter fun c => P.other c
end Go.Proofs.YtnkghdakjdhhdaaGreat
end
section
namespace Go.Proofs.YtnkghdakjdhhdaaGreat
open Go.RowKit Go.Lib Go.Tk Go.Shelf

end Go.Proofs.YtnkghdakjdhhdaaGreat
end
section
namespace Go.Proofs.YtnkghdakjdhhdaaGreat
open Go.RowKit Go.Lib Go.Tk Go.WideShapes

theorem wfu8' {a : Int} (h : (Lit.int .u8 a).wf = true) : 0 ≤ a ∧ a ≤ 255 := by
  simpa [Lit.wf, IntKind.min, IntKind.max, IntKind.signed, IntKind.bits] using h
theorem wfu64' {a : Int} (h : (Lit.int .u64 a).wf = true) : 0 ≤ a ∧ a ≤ 18446744073709551615 := by
  simpa [Lit.wf, IntKind.min, IntKind.max, IntKind.signed, IntKind.bits] using h

variable {H : Type} {enc : TypeId × Value → H} {w : World} {base : Nat} {spare : Nat → Bool} {held : Bool}

end Go.Proofs.YtnkghdakjdhhdaaGreat
end
section
namespace Go.Proofs.YtnkghdakjdhhdaaGreat
set_option maxRecDepth 100000
open Go.RowKit Go.Lib Go.Tk Go.Shelf Go.Vc Go.Sx Go.WideShapes
set_option linter.unusedVariables false
set_option linter.unusedSimpArgs false

section
variable {H : Type} {enc : TypeId × Value → H} {w : World} {base : Nat} {spare : Nat → Bool} {held : Bool}
def act16Ts : List TypeId := [3, 5, 23, 5, 5, 5, 5, 23, 5, 5, 28, 29, 2, 32, 29, 2, 44]
theorem act16Ts_flat : flatT Tryz.prog 6 92 = some act16Ts := by kernel_rfl
theorem act16Ts_ints : act16Ts.map Tryz.prog.underlying = [IntKind.i64, .u8, .u64, .u8, .u8, .u8, .u8, .u64, .u8, .u8, .u16, .u32, .i64, .u8, .u32, .i64, .i64].map (fun k => some (.int k)) := by kernel_rfl
end
end Go.Proofs.YtnkghdakjdhhdaaGreat
end
section
namespace Go.Proofs.YtnkghdakjdhhdaaGreat
set_option maxRecDepth 100000
open Go.RowKit Go.Lib Go.Tk Go.Shelf Go.Vc Go.Sx
set_option linter.unusedVariables false
set_option linter.unusedSimpArgs false

end Go.Proofs.YtnkghdakjdhhdaaGreat
end
section
namespace Go.Proofs.YtnkghdakjdhhdaaGreat
set_option maxRecDepth 100000
open Go.RowKit Go.Lib Go.Tk Go.Shelf Go.Vc Go.Sx
set_option linter.unusedVariables false
set_option linter.unusedSimpArgs false

/-! ### no book -/
/-! ### tickets that are known -/
end Go.Proofs.YtnkghdakjdhhdaaGreat
end
section
namespace Go.Proofs.YtnkghdakjdhhdaaGreat
set_option maxRecDepth 100000
open Go.RowKit Go.Lib Go.Tk Go.Sort Go.Shelf

theorem sort_a : sortL (restsL 101 2 [1, 1]) = [(1, 0), (1, 1)] := by
  refine (sortL_unique ?_ ?_).symm
  · decide
  · decide
theorem share_a : shareV 101 [1, 1] = [51, 50] := by
  have e : shareE 101 [1, 1] = 0 := by decide
  unfold shareV
  rw [if_pos e]
  unfold shareL chosen
  have hs : ([1, 1] : List Int).sum = 2 := by decide
  rw [hs, sort_a]
  decide
theorem share16 : shareV sale16.fare (wsOf sale16) = [51, 50] := share_a
end Go.Proofs.YtnkghdakjdhhdaaGreat
end
section
namespace Go.Proofs.YtnkghdakjdhhdaaGreat
set_option maxRecDepth 100000
open Go.RowKit Go.Lib Go.Tk Go.Shelf Go.Vc Go.Sx
set_option linter.unusedVariables false
set_option linter.unusedSimpArgs false

def t11 : Tid := ⟨1, 1⟩
def t12 : Tid := ⟨1, 2⟩
end Go.Proofs.YtnkghdakjdhhdaaGreat
end
section
namespace Go.Proofs.YtnkghdakjdhhdaaGreat
set_option maxRecDepth 100000
open Go.RowKit Go.Lib Go.Tk Go.Shelf Go.Vc Go.Sx
set_option linter.unusedVariables false
set_option linter.unusedSimpArgs false

theorem tid_docs {B : BookV} (h : BookOk B) {d : DocV} (hd : d ∈ B.docs) : TidOk d.t := by
  obtain ⟨j, hj, hjd⟩ := List.getElem_of_mem hd
  have e := h.docs j d (by rw [List.getElem?_eq_getElem hj, hjd])
  have hs := h.self
  have hn := h.n
  have hm := h.many
  rw [e]
  exact ⟨⟨by show 0 ≤ B.self; omega, by show B.self ≤ 255; omega⟩, by show 0 ≤ (j : Int) + 1; omega, by show (j : Int) + 1 ≤ _; omega⟩
/-! ### acts, one behind the other -/
theorem encTaxL_len (l : List Tax) : (cellsL encTax l).length = l.length * 2 := cellsL_len (enc := encTax) (size := 2) (fun _ => rfl) l
/-! ### from what comes in -/
theorem slOk_row {w : World} {a : Option Addr} {xs : List Value} {n c : Nat} (hr : Row w a xs) (hx : a = none → xs.length = 0 → n = 0) (hn : a = none → c = 0) : SlOk a n c := ⟨fun e => ⟨hx e (by
  subst e
  cases hl : xs.length with
  | zero => rfl
  | succ k =>
    obtain ⟨b, off, h, -⟩ := hr 0 (by omega)
    cases h), hn e⟩⟩
theorem maxLen_le {n : Nat} (h : n ≤ maxLen) : n ≤ 9223372036854775807 := by unfold maxLen at h; omega
end Go.Proofs.YtnkghdakjdhhdaaGreat
end
section
namespace Go.Proofs.YtnkghdakjdhhdaaGreat
set_option maxRecDepth 100000
open Go.RowKit Go.Lib Go.Tk Go.Shelf Go.Vc Go.Sx Go.Maps
set_option linter.unusedVariables false
set_option linter.unusedSimpArgs false
def CloneOF : Nat := 52
def CloneHF : Nat := 53
set_option maxHeartbeats 2000000 in
theorem cloneO_any (b : Nat) (es : Array MapEntry) (clock : Nat) (w : World) (hb : w.heap[b]? = some (.map es clock)) :
    Calls Tryz.prog CloneOF #[.map (some b)] w fun e w' => e = .returned (.map (some w.heap.size)) ∧ w' = w.alloc (.map es clock) := by
  unfold CloneOF
  have hq := fun w => run_eql_map_nil_sl (P := Tryz.prog) w 118 _ _ (some b) Tryz.underlying118
  go_enter Tryz.func52, Tryz.ntmps52
  go_wp2
  rw [run_callFunc_extern Tryz.func113 (by kernel_rfl) (by kernel_rfl) (by kernel_rfl) (e := Extern.MapsClone.clone) (by kernel_rfl), run_maps_clone_sl w 118 hb]
  simp only [Result.andThen]
  rw [Oper.upon_value]
  go_wp2
  rw [run_typeAssert_map_sl _ 118 _ _ _ _ Tryz.underlying118]
  simp only [Result.andThen]
  rw [Oper.upon_value]
  go_wp2
  go_ret
  exact ⟨rfl, rfl⟩
set_option maxHeartbeats 2000000 in
theorem cloneH_any (b : Nat) (es : Array MapEntry) (clock : Nat) (w : World) (hb : w.heap[b]? = some (.map es clock)) :
    Calls Tryz.prog CloneHF #[.map (some b)] w fun e w' => e = .returned (.map (some w.heap.size)) ∧ w' = w.alloc (.map es clock) := by
  unfold CloneHF
  have hq := fun w => run_eql_map_nil_sl (P := Tryz.prog) w 119 _ _ (some b) Tryz.underlying119
  go_enter Tryz.func53, Tryz.ntmps53
  go_wp2
  rw [run_callFunc_extern Tryz.func113 (by kernel_rfl) (by kernel_rfl) (by kernel_rfl) (e := Extern.MapsClone.clone) (by kernel_rfl), run_maps_clone_sl w 119 hb]
  simp only [Result.andThen]
  rw [Oper.upon_value]
  go_wp2
  rw [run_typeAssert_map_sl _ 119 _ _ _ _ Tryz.underlying119]
  simp only [Result.andThen]
  rw [Oper.upon_value]
  go_wp2
  go_ret
  exact ⟨rfl, rfl⟩
end Go.Proofs.YtnkghdakjdhhdaaGreat
end
section
namespace Go.Proofs.YtnkghdakjdhhdaaGreat
set_option maxRecDepth 100000
open Go.RowKit Go.Lib Go.Tk Go.Shelf Go.Vc Go.Sx Go.Maps
set_option linter.unusedVariables false
set_option linter.unusedSimpArgs false
/-- the rows of documents -/
def rowsC (L : List (DocV × DocA)) : Chunk where
  at_ S w := ∀ p ∈ L, DocIn S w p
  stable hk hi h := fun p hp => (h p hp).stays hk hi
theorem docs_split {L : List (DocV × DocA)} {b : Nat} {v : Value} {R : List Chunk} {w : World} (h : Mem (docsF L b v :: R) w) : Mem (mapC tidK b (ents docW (docKV L)) :: rowsC L :: R) w := by
  have h1 : Mem (allC [mapC tidK b (ents docW (docKV L)), rowsC L] :: R) w := h.weaken fun S hS => by
    obtain ⟨⟨hb, hm⟩, Sd, g1, g2, -⟩ := hS
    refine ⟨fun i k => match i with | 0 => k = b | _ => Sd k, fun i k hi hk => ?_, fun i c hc => ?_, fun i j k hi hj hij hki hkj => ?_⟩
    · match i, hk with
      | 0, hk => exact hk ▸ hb
      | i + 1, hk => exact (g1 k hk).1
    · match i, hc with
      | 0, hc => cases hc; exact ⟨rfl, hm⟩
      | 1, hc => cases hc; exact g2
      | i + 2, hc => cases hc
    · match i, j, hij, hki, hkj with
      | 0, 0, hij, _, _ => exact hij rfl
      | 0, j + 1, _, hki, hkj => exact (g1 k hkj).2 hki
      | i + 1, 0, _, hki, hkj => exact (g1 k hki).2 hkj
      | i + 1, j + 1, hij, _, _ => simp at hi hj; exact hij (by omega)
  exact h1.all
theorem docs_shut {L : List (DocV × DocA)} {b : Nat} {v : Value} {R : List Chunk} {w : World} (h : Mem (mapC tidK b (ents docW (docKV L)) :: rowsC L :: R) w) : Mem (docsF L b v :: R) w := by
  refine mem_join (l := [mapC tidK b (ents docW (docKV L)), rowsC L]) h fun S hS => ?_
  obtain ⟨F, g1, g2, g3⟩ := hS
  have m0 := g2 0 _ rfl
  have m1 := g2 1 _ rfl
  refine ⟨⟨g1 0 b (by simp) m0.1, m0.2⟩, F 1, fun k hk => ⟨g1 1 k (by simp) hk, fun e => ?_⟩, m1, fun p hp => by cases hp⟩
  subst e
  exact g3 1 0 k (by simp) (by simp) (by decide) hk m0.1
end Go.Proofs.YtnkghdakjdhhdaaGreat
end
section
namespace Go.Proofs.YtnkghdakjdhhdaaGreat
set_option maxRecDepth 100000
open Go.RowKit Go.Lib Go.Tk Go.Shelf Go.Vc Go.Sx Go.Maps
set_option linter.unusedVariables false
set_option linter.unusedSimpArgs false
theorem copied_rows (L : List (DocV × DocA)) (p : DocV × DocA) (hp : p ∈ L) (sm : DocSmall p.1) : CallOK Tryz.prog CopiedF [.agg (docSA p.1 p.2)] [((0, 5), .fam fun _ _ => rowsC L)] [] (.agg (docS p.1 (.raw 1 0) (.raw 1 1) (.raw 1 2))) (docR p.1) := by
  refine CallOK.mv 5 ?_ rfl rfl rfl
  intro ε R w hM
  have hM' : Mem (rowsC L :: R) w := hM
  have ok : SlOk p.2.la p.1.s.legs.length p.2.lc ∧ SlOk p.2.ta p.1.s.taxes.length p.2.tc ∧ SlOk p.2.va p.1.vals.length p.2.vc := hM'.of 0 rfl fun S hS => ⟨(hS p hp).okl, (hS p hp).okt, (hS p hp).okv⟩
  exact copied_w (fun _ _ => rowsC L) (fun b v S w h => (h p hp).legs) (fun b v S w h => (h p hp).taxes) (fun b v S w h => (h p hp).vals) ok.1 ok.2.1 ok.2.2 sm ε R w hM
theorem putt_new {κ α : Type} [DecidableEq κ] : ∀ (l : List (κ × α)) (k : κ) (a : α), (∀ p ∈ l, p.1 ≠ k) → putt l k a = l ++ [(k, a)]
  | [], _, _, _ => rfl
  | p :: l, k, a, h => by
    show (if _ then _ else _) = _
    rw [if_neg (h p List.mem_cons_self), putt_new l k a fun q hq => h q (List.mem_cons_of_mem _ hq)]
    rfl
/-- a new document whose lists lie in rows of one's own is set -/
theorem upd_docsN (ds : List DocV) (d : DocV) (ht : TidOk d.t) (hn : ∀ x ∈ ds, x.t ≠ d.t) :
    OpG Tryz.prog (isUp DT) upXYZ [.map 0 0, .agg (tidS d.t), .agg (docS d (.raw 0 1) (.raw 0 2) (.raw 0 3))] [] [((0, 0), .fam (docsX ds)), ((0, 1), legR d.s.legs.length d.s.legs), ((0, 2), taxR d.s.taxes.length d.s.taxes), ((0, 3), i64R d.vals.length d.vals)] (.val undef) [((0, 0), .fam (docsX (ds ++ [d])))] := by
  intro o ho
  refine ⟨(upd_docs [] [(d, docA0)] (d, docA0) ht (List.Perm.refl _) o ho).1, fun ε ρ R w hx hM => ?_⟩
  have hM : Mem (docsX ds (ε 0 0).1 (ε 0 0).2 :: rowC 31 3 (asSl (ε 0 1).2) d.s.legs.length (cellsL encLeg d.s.legs) :: rowC 189 2 (asSl (ε 0 2).2) d.s.taxes.length (cellsL encTax d.s.taxes) :: rowC 2 1 (asSl (ε 0 3).2) d.vals.length (d.vals.map (.int .i64)) :: R) w := hM
  obtain ⟨la, lc, hvl, okl⟩ := row_sl (hM.owns 1 rfl)
  obtain ⟨ta, tc, hvt, okt⟩ := row_sl (hM.owns 2 rfl)
  obtain ⟨va, vc, hvv, okv⟩ := row_sl (hM.owns 3 rfl)
  rw [hvl, hvt, hvv] at hM
  obtain ⟨⟨L, hL⟩, hM⟩ := Mem.ex hM
  have hM2 := docs_join (p := (d, ⟨la, lc, ta, tc, va, vc⟩)) rfl rfl rfl hM
  have hp : (putt (docKV L) d.t (d, (⟨la, lc, ta, tc, va, vc⟩ : DocA))).Perm (docKV (L ++ [(d, ⟨la, lc, ta, tc, va, vc⟩)])) := by
    rw [putt_new _ _ _ fun q hq => by
      obtain ⟨y, hy, rfl⟩ := List.mem_map.1 hq
      exact hn y.1 (by rw [← hL]; exact List.mem_map_of_mem hy)]
    unfold docKV
    rw [List.map_append]
    exact List.Perm.refl _
  have hA : SV.dens ε [.map 0 0, .agg (tidS d.t), .agg (docS d (.raw 0 1) (.raw 0 2) (.raw 0 3))] = SV.dens ε [.map 0 0, .agg (tidS d.t), .agg (docSA d ⟨la, lc, ta, tc, va, vc⟩)] := by
    simp only [SV.dens, SV.den, docS, docSA, hvl, hvt, hvv]
  rw [hA] at hx
  have := (upd_docs L (L ++ [(d, ⟨la, lc, ta, tc, va, vc⟩)]) (d, ⟨la, lc, ta, tc, va, vc⟩) ht hp o ho).2 ε ρ R w hx hM2
  exact res_mono (fun u w' ⟨x, h1, h2⟩ => ⟨x, h1, by
    have h2 : Mem (docsF (L ++ [(d, ⟨la, lc, ta, tc, va, vc⟩)]) (eset ε 1 x 0 0).1 (eset ε 1 x 0 0).2 :: R) w' := h2
    have h3 : Mem (docsX (ds ++ [d]) (eset ε 1 x 0 0).1 (eset ε 1 x 0 0).2 :: R) w' := Mem.in_ex ⟨L ++ [(d, ⟨la, lc, ta, tc, va, vc⟩)], by rw [List.map_append, hL]; rfl⟩ h2
    exact h3⟩) this
end Go.Proofs.YtnkghdakjdhhdaaGreat
end
