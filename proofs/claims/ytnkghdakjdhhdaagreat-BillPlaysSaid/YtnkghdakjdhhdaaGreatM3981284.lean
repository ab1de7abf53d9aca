/- Bi3, Lw16d, Lw16e, HoP2, HoP3, BiP1, Vals, BiP2, Ky0, Ky1. -/
import Derived.Test.YtnkghdakjdhhdaaGreatM68eeddc
import Derived.Test.YtnkghdakjdhhdaaGreatM421640f
import Derived.Test.YtnkghdakjdhhdaaGreatM467ed32
import Derived.Test.YtnkghdakjdhhdaaGreatM642530e
import Derived.Sort.MapsRangeIn
import Derived.RangeFuncSeq
import Derived.Test.YtnkghdakjdhhdaaGreatM227826e
import Derived.RangeFuncBox
import Derived.RangeFuncNested
import Derived.RangeFuncBound
import Derived.RangeFuncCalls
import Derived.RangeFuncLeaves
import Derived.RangeFuncGives
import Derived.RangeFuncKeeps
import Derived.Shelf.Abstract
import Derived.Shelf.RegionOpen
import Derived.WalkKit
import Derived.OwnWalkIn
import Derived.TacticsInMore
import Derived.LoopNIn
import Derived.LoopIn
import Derived.Sort.LoopGhostIn
set_option maxRecDepth 100000
set_option linter.unusedVariables false
set_option linter.unusedSimpArgs false
set_option linter.unusedSectionVars false
section
namespace Go.Proofs.YtnkghdakjdhhdaaGreat
open Go.RowKit Go.Lib Go.Tk Go.Shelf Go.Vc Go.Sx
def badHearB (B : BookV) (c : Int) (kind : Int) : Bool := !(decide (6 ≤ kind) && decide (kind ≤ 8)) || (decide (c = B.self) || decide (B.n ≤ c))
def hearBQ (B : BookV) (c : Int) (m : MsV) : HR := bif badHearB B c m.kind then ⟨[], 1, B⟩ else bif decide (m.kind = 6) then hbillQ B c m else ⟨[], 0, hansB B c m⟩
theorem hbill_e (B : BookV) (c : Int) (m : MsV) : (hbillQ B c m).e = 0 := by
  unfold hbillQ
  dsimp only
  cases (lkt B.owns m.key).isSome <;> cases ((lkt B.owns m.key).getD own0).away <;> cases decide (((lkt B.owns m.key).getD own0).dst = c) <;> cases ((lkt B.owns m.key).getD own0).paid <;> cases decide (((lkt B.owns m.key).getD own0).k.v = m.amt) <;> rfl
def BhearF : Nat := 43
def BFT : TypeId := 173
def bhearEs (c : Int) (m : MsV) : List (Value × SV × Nat) := [(.int .u8 8, .fn (.func HansF) [.agg (hearS c m)] [], 0), (.int .u8 7, .fn (.func HansF) [.agg (hearS c m)] [], 0), (.int .u8 6, .fn (.func HbillF) [.agg (hearS c m)] [], 0)]
theorem bhear_w (F : CF) (B : BookV) {c : Int} (hc : 0 ≤ c ∧ c ≤ 255) (m : MsV) (hm : 0 ≤ m.kind ∧ m.kind ≤ 255) (hk : KidOk m.key) : CallOK Tryz.prog BhearF [.ptr 0 0 0, .val (.int .u8 c), .agg (msS m)] [] (bkH F B) (.tup [.raw 1 0, eN (hearBQ B c m).e]) (bkH F (hearBQ B c m).b ++ [((1, 0), outsC (hearBQ B c m).out)]) := by
  obtain ⟨kind, key, k, amt, code⟩ := m
  have c1 := self_w F B
  have c2 := carr_w F B
  have w1 : IntKind.i64.wrap c = c := wr_i64 (by omega)
  have h1 := outs_of (hbill_w F B c ⟨kind, key, k, amt, code⟩ hk)
  have h2 := hans_w F B c ⟨kind, key, k, amt, code⟩ hk
  have E1 := hbill_e B c ⟨kind, key, k, amt, code⟩
  by_cases g : kind = 6 ∨ kind = 7 ∨ kind = 8
  · rcases Bool.eq_false_or_eq_true (decide (c = B.self)) with e1 | e1
    · have e : badHearB B c kind = true := by unfold badHearB; rw [e1, Bool.true_or, Bool.or_true]
      unfold hearBQ
      simp only [e]
      rcases g with rfl | rfl | rfl <;> exact callOK_run 400 [hC 6 5 c1, hB 6 6 _ _ e1] (by kernel_rfl) (by kernel_rfl)
    rcases Bool.eq_false_or_eq_true (decide (B.n ≤ c)) with e2 | e2
    · have e : badHearB B c kind = true := by unfold badHearB; rw [e2, Bool.or_true, Bool.or_true]
      unfold hearBQ
      simp only [e]
      rcases g with rfl | rfl | rfl <;> exact callOK_run 400 [hC 6 5 c1, hB 6 6 _ _ e1, hI 6 10 IntKind.i64 _ _ w1, hC 6 12 c2, hB 6 13 _ _ e2] (by kernel_rfl) (by kernel_rfl)
    have e : badHearB B c kind = false := by
      unfold badHearB; rw [e1, e2]
      rcases g with rfl | rfl | rfl <;> rfl
    unfold hearBQ
    simp only [e]
    rcases g with rfl | rfl | rfl
    · show CallOK _ _ _ _ _ (.tup [.raw 1 0, eN (hbillQ B c ⟨6, key, k, amt, code⟩).e]) _
      rw [E1]
      exact callOK_run 400 [hC 6 5 c1, hB 6 6 _ _ e1, hI 6 10 IntKind.i64 _ _ w1, hC 6 12 c2, hB 6 13 _ _ e2, hC 8 1 h1] (by kernel_rfl) (by kernel_rfl)
    · exact callOK_run 400 [hC 6 5 c1, hB 6 6 _ _ e1, hI 6 10 IntKind.i64 _ _ w1, hC 6 12 c2, hB 6 13 _ _ e2, hC 8 1 h2] (by kernel_rfl) (by kernel_rfl)
    · exact callOK_run 400 [hC 6 5 c1, hB 6 6 _ _ e1, hI 6 10 IntKind.i64 _ _ w1, hC 6 12 c2, hB 6 13 _ _ e2, hC 8 1 h2] (by kernel_rfl) (by kernel_rfl)
  · have e : badHearB B c kind = true := by
      unfold badHearB
      have : (decide (6 ≤ kind) && decide (kind ≤ 8)) = false := by
        rw [Bool.and_eq_false_iff, decide_eq_false_iff_not, decide_eq_false_iff_not]
        by_cases h : 6 ≤ kind
        · exact .inr (by omega)
        · exact .inl h
      rw [this]; rfl
    unfold hearBQ
    simp only [e]
    have l1 := look_missJ 9 (P := Tryz.prog) (t := BFT) (c := true) (es := bhearEs c ⟨kind, key, k, amt, code⟩) (k := .u8) (x := kind) (ret := .tup [.val .nilFunc, .val (.bool false)]) (z := .nilFunc) Tryz.underlying173 Tryz.underlying5 (by kernel_rfl) (by kernel_rfl) (keyOf_u8 hm) (fun w => still_run (by kernel_rfl) w)
      (fun q hq e => g (by
        simp only [bhearEs, List.mem_cons, List.not_mem_nil, or_false] at hq
        rcases hq with rfl | rfl | rfl <;> (cases e; simp)))
      (fun _ => rfl) (by rfl) (by kernel_rfl)
    exact callOK_run 400 [hG 5 3 l1] (by kernel_rfl) (by kernel_rfl)
theorem useOwn_docs (B : BookV) (k : Kid) (cmd : Int) : (useOwn B k cmd).b.docs = B.docs := by
  unfold useOwn
  dsimp only
  cases (lkt B.owns k).isSome <;> cases (((lkt B.owns k).getD own0).away || !decide (((lkt B.owns k).getD own0).k.l.c = B.self)) <;> cases decide ((nextI ((lkt B.owns k).getD own0).k.s cmd).2 = 0) <;> first | rfl | exact setO_docs B k _
theorem use_docs (B : BookV) (k : Kid) (cmd : Int) : (useQ B k cmd).b.docs = B.docs := by
  unfold useQ useHeld
  dsimp only
  cases useB cmd <;> cases decide (k.t.c = B.self) <;> cases (lkt B.helds k).isSome <;> cases ((lkt B.helds k).getD held0).here <;> cases decide ((nextI ((lkt B.helds k).getD held0).k.s cmd).2 = 0) <;> first | rfl | exact setH_docs B k _ | exact useOwn_docs B k cmd
theorem bill_docs (B : BookV) (k : Kid) (amt : Int) : (billQ B k amt).b.docs = B.docs := by
  unfold billQ
  dsimp only
  cases (lkt B.helds k).isSome <;> cases ((lkt B.helds k).getD held0).here <;> cases (!decide (((lkt B.helds k).getD held0).k.s = 4) || (((lkt B.helds k).getD held0).paid || ((lkt B.helds k).getD held0).billed)) <;> cases mayI amt <;> first | rfl | exact setH_docs B k _
theorem hbill_docs (B : BookV) (c : Int) (m : MsV) : (hbillQ B c m).b.docs = B.docs := by
  unfold hbillQ
  dsimp only
  cases (lkt B.owns m.key).isSome <;> cases ((lkt B.owns m.key).getD own0).away <;> cases decide (((lkt B.owns m.key).getD own0).dst = c) <;> cases ((lkt B.owns m.key).getD own0).paid <;> cases decide (((lkt B.owns m.key).getD own0).k.v = m.amt) <;> first | rfl | exact setO_docs B _ _
theorem hans_docs (B : BookV) (c : Int) (m : MsV) : (hansB B c m).docs = B.docs := by
  unfold hansB
  cases (isHeld B c m.key && ((lkt B.helds m.key).getD held0).billed) <;> first | rfl | exact setH_docs B _ _
theorem hearB_docs (B : BookV) (c : Int) (m : MsV) : (hearBQ B c m).b.docs = B.docs := by
  unfold hearBQ
  cases badHearB B c m.kind <;> cases decide (m.kind = 6) <;> first | rfl | exact hbill_docs B c m | exact hans_docs B c m
theorem use_c (B : BookV) {k : Kid} (hk : KidOk k) {cmd : Int} (hc : 0 ≤ cmd ∧ cmd ≤ 255) (hs : ∀ o, lkt B.owns k = some o → 0 ≤ o.k.s ∧ o.k.s ≤ 255) (hh : ∀ h, lkt B.helds k = some h → 0 ≤ h.k.s ∧ h.k.s ≤ 255) :
    CallOK Tryz.prog UseF [.ptr 0 0 0, .agg (kidS k), .val (.int .u8 cmd)] [] (bkC B) (.tup [.raw 1 0, eN (useQ B k cmd).e]) (bkC (useQ B k cmd).b ++ [((1, 0), outsC (useQ B k cmd).out)]) :=
  shutD (use_docs B k cmd) (outs_of (use_w (docsX B.docs) B hk hc hs hh)) rfl rfl rfl rfl
theorem bill_c (B : BookV) {k : Kid} (hk : KidOk k) (amt : Int) : CallOK Tryz.prog BillF [.ptr 0 0 0, .agg (kidS k), .val (.int .i64 amt)] [] (bkC B) (.tup [.raw 1 0, eN (billQ B k amt).e]) (bkC (billQ B k amt).b ++ [((1, 0), outsC (billQ B k amt).out)]) :=
  shutD (bill_docs B k amt) (outs_of (bill_w (docsX B.docs) B hk amt)) rfl rfl rfl rfl
theorem hearB_c (B : BookV) {c : Int} (hc : 0 ≤ c ∧ c ≤ 255) (m : MsV) (hm : 0 ≤ m.kind ∧ m.kind ≤ 255) (hk : KidOk m.key) : CallOK Tryz.prog BhearF [.ptr 0 0 0, .val (.int .u8 c), .agg (msS m)] [] (bkC B) (.tup [.raw 1 0, eN (hearBQ B c m).e]) (bkC (hearBQ B c m).b ++ [((1, 0), outsC (hearBQ B c m).out)]) :=
  shutD (hearB_docs B c m) (bhear_w (docsX B.docs) B hc m hm hk) rfl rfl rfl rfl
end Go.Proofs.YtnkghdakjdhhdaaGreat
end
section
namespace Go.Proofs.YtnkghdakjdhhdaaGreat
open Go.RowKit Go.Lib Go.Tk Go.Shelf Go.Vc Go.Sx
end Go.Proofs.YtnkghdakjdhhdaaGreat
end
section
namespace Go.Proofs.YtnkghdakjdhhdaaGreat
open Go.RowKit Go.Lib Go.Tk Go.Shelf Go.Vc Go.Sx
def wantB : BookV := { bookNew 1 3 with helds := [(keyA 1, wantH held0)] }
def heldK (v : Int) : Cpn := ⟨⟨1, 0, 1⟩, v, 1, 1⟩
def heldB (v : Int) : BookV := { bookNew 1 3 with helds := [(keyA 1, newH (heldK v))] }
def givenA (v : Int) : OwnV := ⟨heldK v, true, 1, false, false⟩
theorem keyA_ok {j : Int} (h1 : 0 ≤ j) (h2 : j ≤ 255) : KidOk (keyA j) := ⟨⟨⟨by show (0 : Int) ≤ 0; decide, by show (0 : Int) ≤ 255; decide⟩, by show (0 : Int) ≤ 1; decide, by show (1 : Int) ≤ _; decide⟩, h1, h2⟩
end Go.Proofs.YtnkghdakjdhhdaaGreat
end
section
namespace Go.Proofs.YtnkghdakjdhhdaaGreat
open Go.RowKit Go.Lib Go.Tk Go.Shelf Go.Vc Go.Sx
structure OneP (o : OwnV) (x : HeldV) (k : Kid) (D U : List MsV) : Prop where
  stay : o.away = false → nM 2 k D = 0 ∧ nM 5 k U = 0 ∧ x.here = false
  gone : o.away = true → o.dst = 1 ∧ nM 2 k D + nM 5 k U + (if x.here = true then 1 else 0) = 1
  dn : ∀ m ∈ D, m.kind = 2 → m.key = k → m.k.n = o.k.n
  upn : ∀ m ∈ U, m.kind = 5 → m.key = k → m.k.n = o.k.n
  hn : x.here = true → x.k.n = o.k.n
  le : x.k.n ≤ o.k.n
  lt : 0 < nM 2 k D → x.k.n < o.k.n
  lo : 0 ≤ o.k.n
  hi : o.k.n ≤ 4294967295
theorem nM_drop1 (kind : Int) (k : Kid) (l : List MsV) {m : MsV} (hm : m.kind = kind ∧ m.key = k) : nM kind k (m :: l) = nM kind k l + 1 := by
  show (if _ then 1 else 0) + _ = _; rw [if_pos hm]; omega
section
variable {o : OwnV} {x : HeldV} {k : Kid} {D U : List MsV} {m : MsV}
theorem OneP.own {o' : OwnV} (h : OneP o x k D U) (h1 : o'.away = o.away) (h2 : o'.dst = o.dst) (h3 : o'.k = o.k) : OneP o' x k D U :=
  ⟨by rw [h1]; exact h.stay, by rw [h1, h2]; exact h.gone, by rw [h3]; exact h.dn, by rw [h3]; exact h.upn, by rw [h3]; exact h.hn, by rw [h3]; exact h.le, by rw [h3]; exact h.lt, by rw [h3]; exact h.lo, by rw [h3]; exact h.hi⟩
theorem OneP.held {x' : HeldV} (h : OneP o x k D U) (h1 : x'.here = x.here) (h2 : x'.k = x.k) : OneP o x' k D U :=
  ⟨by rw [h1]; exact h.stay, by rw [h1]; exact h.gone, h.dn, h.upn, by rw [h1, h2]; exact h.hn, by rw [h2]; exact h.le, by rw [h2]; exact h.lt, h.lo, h.hi⟩
theorem OneP.away_of (h : OneP o x k D U) (h1 : x.here = true ∨ 0 < nM 2 k D ∨ 0 < nM 5 k U) : o.away = true := by
  rcases Bool.eq_false_or_eq_true o.away with e | e
  · exact e
  · have := h.stay e
    rcases h1 with h1 | h1 | h1
    · rw [this.2.2] at h1; cases h1
    · omega
    · omega
theorem OneP.back (h : OneP o x k D (m :: U)) (h1 : m.kind = 5) (h2 : m.key = k) : o.away = true ∧ o.dst = 1 ∧ o.k.n = m.k.n ∧ OneP (backO o) x k D U := by
  have hz := nM_drop1 5 k U (m := m) ⟨h1, h2⟩
  have hn := h.upn m List.mem_cons_self h1 h2
  have hp : 0 < nM 5 k (m :: U) := by omega
  have ha := h.away_of (.inr (.inr hp))
  have hg := h.gone ha
  rw [hz] at hg
  have hf : x.here = false := by
    rcases Bool.eq_false_or_eq_true x.here with e | e
    · rw [if_pos e] at hg; omega
    · exact e
  exact ⟨ha, hg.1, hn.symm, ⟨fun _ => ⟨by omega, by omega, hf⟩, (fun e => by cases e), h.dn, fun m' hm' e1 e2 => h.upn m' (List.mem_cons_of_mem _ hm') e1 e2, h.hn, h.le, h.lt, h.lo, h.hi⟩⟩
end
structure InvP (σ : HSt) : Prop where
  one : ∀ k ∈ keysA, ∃ o, lkt σ.a.owns k = some o ∧ OneP o ((lkt σ.b.helds k).getD held0) k σ.down σ.up
  sa : σ.a.self = 0
  na : σ.a.n = 2
  sb : σ.b.self = 1
  nb : σ.b.n = 2
  ow : ∀ k, (lkt σ.a.owns k).isSome = true → k ∈ keysA
  ob : σ.b.owns = []
  ha : σ.a.helds = []
  he : ∀ k, (lkt σ.b.helds k).isSome = true → k ∈ keysA
  nd : (σ.b.helds.map (·.1)).Nodup
  dk : ∀ m ∈ σ.down, m.key ∈ keysA ∧ (m.kind = 2 ∨ m.kind = 3 ∨ m.kind = 4)
  uk : ∀ m ∈ σ.up, m.key ∈ keysA ∧ (m.kind = 1 ∨ m.kind = 3 ∨ m.kind = 5)
theorem len_sub {α : Type} [DecidableEq α] : ∀ (l r : List α), l.Nodup → (∀ a ∈ l, a ∈ r) → l.length ≤ r.length
  | [], r, _, _ => Nat.zero_le _
  | a :: l, r, hn, hs => by
    rw [List.nodup_cons] at hn
    have hm := hs a List.mem_cons_self
    have := len_sub l (r.erase a) hn.2 (fun b hb => by
      have hne : b ≠ a := fun e => hn.1 (e ▸ hb)
      exact (List.mem_erase_of_ne hne).2 (hs b (List.mem_cons_of_mem _ hb)))
    rw [List.length_erase_of_mem hm] at this
    have hp : 0 < r.length := List.length_pos_of_mem hm
    simp only [List.length_cons]; omega
theorem keys_at {k : Kid} (h : k ∈ keysA) : ∃ i : Int, k = keyA i ∧ 0 ≤ i ∧ i ≤ 3 := by
  simp only [keysA, List.mem_cons, List.not_mem_nil, or_false] at h
  rcases h with rfl | rfl | rfl | rfl
  · exact ⟨0, rfl, by decide, by decide⟩
  · exact ⟨1, rfl, by decide, by decide⟩
  · exact ⟨2, rfl, by decide, by decide⟩
  · exact ⟨3, rfl, by decide, by decide⟩
theorem InvP.setHE {σ : HSt} (h : InvP σ) {k : Kid} (hk : k ∈ keysA) : σ.b.setHE k = 0 := by
  obtain ⟨i, rfl, h0, h1⟩ := keys_at hk
  have hb : σ.b.badK (keyA i) = false := by
    unfold BookV.badK
    rw [h.sb, h.nb]
    show (decide ((0 : Int) = 1) || (decide ((2 : Int) ≤ 0) || (decide ((1 : Int) < 1) || (decide ((9999999999 : Int) < 1) || decide (4 ≤ i))))) = false
    rw [decide_eq_false (show ¬ 4 ≤ i by omega)]; rfl
  have hl := len_sub _ keysA h.nd (fun a ha => h.he a (by
    cases e : lkt σ.b.helds a with
    | none => exact absurd ha (lkt_none.1 e)
    | some _ => rfl))
  rw [List.length_map] at hl
  have hl : σ.b.helds.length ≤ 4 := hl
  unfold BookV.setHE
  rw [hb, decide_eq_false (show ¬ 64 ≤ σ.b.helds.length by omega), Bool.and_false]; rfl
theorem InvP.setH {σ : HSt} (h : InvP σ) {k : Kid} (hk : k ∈ keysA) (x : HeldV) : σ.b.setH k x = { σ.b with helds := putt σ.b.helds k x } := by
  unfold BookV.setH; rw [h.setHE hk]; rfl
section
variable {A B : BookV} {D U D' U' : List MsV} {k : Kid}
end
end Go.Proofs.YtnkghdakjdhhdaaGreat
end
section
namespace Go.Proofs.YtnkghdakjdhhdaaGreat
open Go.RowKit Go.Lib Go.Tk Go.Shelf Go.Vc Go.Sx
section
variable {A B : BookV} {D U : List MsV}
end
end Go.Proofs.YtnkghdakjdhhdaaGreat
end
section
namespace Go.Proofs.YtnkghdakjdhhdaaGreat
open Go.RowKit Go.Lib Go.Tk Go.Shelf Go.Vc Go.Sx
def kB : Kid := keyA 1
structure BSt where
  a : BookV
  b : BookV
  down : List MsV
  up : List MsV
  acc : Nat
def eB (σ : BSt) (d : Int) : Int :=
  if d = 0 then 0 else if d = 1 then 0
  else if d = 2 then match σ.down with
    | [] => 0
    | m :: l => (hearBQ σ.b 0 m).e
  else match σ.up with
    | [] => 0
    | m :: l => (hearBQ σ.a 1 m).e
section
variable {A B : BookV} {D U : List MsV} {acc : Nat}
end
end Go.Proofs.YtnkghdakjdhhdaaGreat
end
section
namespace Go.Proofs.YtnkghdakjdhhdaaGreat
open Go.RowKit Go.Lib Go.Tk Go.Sort Go.Shelf
theorem sort_a : sortL (restsL 101 2 [1, 1]) = [(1, 0), (1, 1)] := by
  refine (sortL_unique ?_ ?_).symm
  · decide
  · decide
theorem share_a : shareV 101 [1, 1] = [51, 50] := by
  have e : shareE 101 [1, 1] = 0 := by decide
  unfold shareV
  rw [if_pos e]
  unfold shareL chosen
  have hs : ([1, 1] : List Int).sum = 2 := by decide
  rw [hs, sort_a]
  decide
theorem share16 : shareV sale16.fare (wsOf sale16) = [51, 50] := share_a
end Go.Proofs.YtnkghdakjdhhdaaGreat
end
section
namespace Go.Proofs.YtnkghdakjdhhdaaGreat
open Go.RowKit Go.Lib Go.Tk Go.Shelf Go.Vc Go.Sx
structure Act18 where
  d : Int
  k : Kid
  cmd : Int
  amt : Int
  frm : Int
  m : MsV
deriving Inhabited
def act18L (x : Act18) : List Value := .int .i64 x.d :: .int .u8 x.k.t.c :: .int .u64 x.k.t.r :: .int .u8 x.k.i :: .int .u8 x.cmd :: .int .i64 x.amt :: .int .u8 x.frm :: msL x.m
def act18S (x : Act18) : List SV := .val (.int .i64 x.d) :: .val (.int .u8 x.k.t.c) :: .val (.int .u64 x.k.t.r) :: .val (.int .u8 x.k.i) :: .val (.int .u8 x.cmd) :: .val (.int .i64 x.amt) :: .val (.int .u8 x.frm) :: msS x.m
theorem act18_len (x : Act18) : (act18L x).length = 19 := rfl
def act180 : Act18 := ⟨0, kid0, 0, 0, 0, ⟨0, kid0, cpn0, 0, 0⟩⟩
theorem act18_nth {l : List Act18} {i : Nat} (h : i < l.length) (d : Act18) : ∀ (ε : Env) (q : Nat) (v : SV), (act18S (l.getD i d))[q]? = some v → (cellsL act18L l)[i * 19 + q]? = some (v.den ε) := cells_nth (fun _ _ => rfl) act18_len (getD_some h d)
theorem own_50 : lkt ((bookNew 0 3).issued sale16).owns kB = some (ownNew ⟨1, 0, 1⟩ 50) := by
  show lkt (issO (bookNew 0 3).nextT sale16 (shareV sale16.fare (wsOf sale16)) [] (shareV sale16.fare (wsOf sale16)).length) kB = _
  rw [share16]; rfl
def pairA : BookV := ((bookNew 0 3).issued sale16).setO kB (givenA 50)
def pairB : BookV := heldB 50
theorem pairA_own : lkt pairA.owns kB = some (givenA 50) := by
  unfold pairA
  rw [setO_some own_50]
  show lkt (putt _ kB (givenA 50)) kB = _
  rw [lkt_put, if_pos rfl]
theorem pairA_self : pairA.self = 0 ∧ pairA.n = 3 := by
  unfold pairA
  rw [setO_some own_50]
  exact ⟨rfl, rfl⟩
def heldT (s : Int) (p b : Bool) : HeldV := ⟨⟨⟨1, 0, 1⟩, 50, s, 1⟩, true, p, false, b⟩
def bookT (s : Int) (p b : Bool) : BookV := { bookNew 1 3 with helds := [(kB, heldT s p b)] }
def paidA : BookV := pairA.setO kB (paidO (givenA 50))
theorem paidA_own : lkt paidA.owns kB = some (paidO (givenA 50)) := by
  unfold paidA
  rw [setO_some pairA_own]
  show lkt (putt _ kB (paidO (givenA 50))) kB = _
  rw [lkt_put, if_pos rfl]
theorem use_fly0 : useQ pairB kB 12 = ⟨[], 6, pairB⟩ := by kernel_rfl
theorem use_check : useQ pairB kB 9 = ⟨[], 0, bookT 2 false false⟩ := by kernel_rfl
theorem use_board : useQ (bookT 2 false false) kB 11 = ⟨[], 0, bookT 3 false false⟩ := by kernel_rfl
theorem use_fly : useQ (bookT 3 false false) kB 12 = ⟨[billO kB 50], 0, bookT 4 false true⟩ := by kernel_rfl
theorem bill_come : hearBQ pairA 1 ⟨6, kB, cpn0, 50, 0⟩ = ⟨[accO 1 kB 50], 0, paidA⟩ := by
  unfold hearBQ badHearB hbillQ
  rw [pairA_self.1, pairA_self.2]
  simp only [pairA_own, Option.getD_some]
  rfl
end Go.Proofs.YtnkghdakjdhhdaaGreat
end
section
namespace Go.Tk
open Go.RowKit Go.Lib Go.Maps
variable {κ : Type} {P : Program} {k : TypeId}
theorem Ranging.of_walks {K : KeyKind P k κ} {w w' : World} {r b : Nat} {L left : List (κ × Value)} (h : Ranging K w r b L left) (hk : KeepsWalks w w') : Ranging K w' r b L left := by
  obtain ⟨es, clock, since, seen, hne, h1, h2, rest⟩ := h
  exact ⟨es, clock, since, seen, hne, hk.same r _ h1 rfl, hk.same b _ h2 rfl, rest⟩
theorem grown_of_below {w w' : World} (h : Below w.heap.size w w') : w.grownBy w' none := ⟨h.os, h.tape, h.output, h.size, fun k hk _ => h.block k hk⟩
section
variable {F : Fence} {n : Nat} {w : World} {ops : Array Oper} {rest : List Oper} {o : Oper} {a : Act} {Q : Exit → Act → World → Prop} {K : KeyKind P k κ} {b : Nat} {L : List (κ × Value)} {e : TypeId}
theorem wpListIn_range_mapA (hg : o.guard = none) (m : Operand) (t : TypeId) (hop : o.op = .range t m) (ht : P.underlying t = some (.map k e)) (hm : a.eval m = .map (some b)) (h : MapAt K w b L)
    (hK : ∀ w', Ranging K w' w.heap.size b L L → Below w.heap.size w w' → wpListIn F n P ops Q rest (a.put o.dst (.pointer (some ⟨w.heap.size, 0, none⟩))) w') : wpListIn F n P ops Q (o :: rest) a w := by
  refine wpListIn_plain hg fun K' hK' => ?_
  obtain ⟨w', hrun, h1, h2⟩ := h.range ht
  unfold Oper.wpIn
  refine ⟨?_, ?_⟩
  · simp [Oper.about, hop]
  · rw [Oper.semAt_plain F _ _ (by rw [hop]; intro c hc'; cases hc')]
    simp [execOp, hop, hm, hrun, Result.andThen]
    exact hK' _ _ (hK w' h1 h2)
theorem wpListIn_next_mapA {left : List (κ × Value)} {r : Nat} (hg : o.guard = none) (it : Operand) (hop : o.op = .next it false) (hit : a.eval it = .pointer (some ⟨r, 0, none⟩)) (h : Ranging K w r b L left)
    (hDone : left = [] → wpListIn F n P ops Q rest (a.put o.dst (.tuple #[.bool false])) w)
    (hMore : ∀ p left' w', left.Perm (p :: left') → p ∈ L → Ranging K w' r b L left' → w.grownBy w' (some r) → (Instr.entry (.pointer (some ⟨r, 0, none⟩))).run P w' = .ok (.tuple #[K.kv p.1, p.2]) w' →
      wpListIn F n P ops Q rest (a.put o.dst (.tuple #[.bool true, K.kv p.1, p.2])) w') : wpListIn F n P ops Q (o :: rest) a w := by
  refine wpListIn_plain hg fun K' hK' => ?_
  unfold Oper.wpIn
  refine ⟨by simp [Oper.about, hop], ?_⟩
  rw [Oper.semAt_plain F _ _ (by rw [hop]; intro c hc'; cases hc')]
  rcases h.next o.type with ⟨h0, hrun⟩ | ⟨p, left', w', h1, h2, hrun, h3, h4, h5⟩
  · simp [execOp, hop, hit, hrun, Result.andThen]
    exact hK' _ _ (hDone h0)
  · simp [execOp, hop, hit, hrun, Result.andThen]
    exact hK' _ _ (hMore p left' w' h1 h2 h3 h4 h5)
end
end Go.Tk
end
section
namespace Go.Proofs.YtnkghdakjdhhdaaGreat
open Go.RowKit Go.Lib Go.Tk Go.Shelf Go.Maps
attribute [local go_sem] Oper.semAt_some
def KeysT1 : Nat := 129
abbrev encT (x : Tid) : Array Value := #[tidV x]
set_option maxHeartbeats 4000000 in
theorem keysT1_in (F : Fence) (n : Nat) (hF : F.fn KeysT1) (hro : F.round = none) (hn : 1 ≤ n) (l Bn b : Nat) (L : List (Tid × Value)) (J Jx : List Tid → World → Prop) (W : World) (hA : AbidesFrom W.heap.size J)
    (hm : MapAt tidK W b L) (hBn : W.cell? ⟨Bn, 0, none⟩ = some (.map (some b)))
    (hY : ∀ pre x W1, J pre W1 → pre.length < L.length → YieldAt F (n - 1) Tryz.prog l (encT x) W1 fun e W' =>
      (e = .returned (.bool true) ∧ J (pre ++ [x]) W' ∧ KeepsWalks W1 W') ∨ (e = .returned (.bool false) ∧ Jx (pre ++ [x]) W')) (h0 : J [] W) :
    CallsIn F n Tryz.prog KeysT1 #[.func (.yield l) #[] #[], .pointer (some ⟨Bn, 0, none⟩)] W fun e W' => (∃ v, e = .returned v) ∧
      ((∃ ys, ys.Perm (L.map (·.1)) ∧ J ys W') ∨ (∃ pre, (∃ rest, (pre ++ rest).Perm (L.map (·.1))) ∧ Jx pre W')) := by
  have HY := hid hY
  have HA := hid hA
  have hsz : Aside (∀ x : Nat, x = W.heap.size → x = W.heap.size) := fun _ e => e
  clear hY hA
  refine callsIn_of_wp Tryz.func129 rfl hF ?_ hro
  simp only [Tryz.ntmps129, List.size_toArray, List.length_cons, List.length_nil, Nat.reduceAdd, Nat.reduceSub, Array.replicate_succ, Array.replicate_zero, List.push_toArray, List.append_toArray, List.nil_append, List.cons_append]
  gi_wp2_with (first
    | (gi_at_range; refine wpListIn_range_mapA rfl _ 117 rfl Tryz.underlying117 rfl hm ?_; intro w1 hrg hb1)
    | gi_in)
  go_frame
  have hJ1 := HA.out [] W w1 none h0 (grown_of_below hb1) (fun r e => by cases e)
  have Hrg := hid hrg
  have HB1 := hid hb1.size
  clear hrg hb1 hm hBn h0
  gi_loopg [] L.length (fun k wr => ∃ (done : List Tid) (left : List (Tid × Value)), k = left.length ∧ Hid (Ranging tidK wr W.heap.size b L left) ∧ Hid ((done ++ left.map (·.1)).Perm (L.map (·.1))) ∧ J done wr ∧ Hid (W.heap.size ≤ wr.heap.size))
  case atStart => exact ⟨[], L, rfl, Hrg, (by rw [List.nil_append]; exact List.Perm.refl _), hJ1, HB1⟩
  case round =>
    obtain ⟨done, left, rfl, hr, hp, hj, hs⟩ := hrel
    gi_wp2_with (first
      | (gi_at_next; refine wpListIn_next_mapA rfl _ rfl rfl hr.out ?_ ?_)
      | gi_in)
    · intro hnil
      subst hnil
      have hp' : done.Perm (L.map (·.1)) := by have := hp.out; simpa using this
      gi_wp2
      go_end0
      exact ⟨⟨_, rfl⟩, .inl ⟨done, hp', hj⟩⟩
    · intro pk pv left' w2 hpl hmem hr2 hg hen
      have hr2' := hid hr2
      have hj2 := HA.out done wr w2 (some W.heap.size) hj hg (fun r e => by cases e; exact ⟨Nat.le_refl _, by
        obtain ⟨es, clock, since, seen, -, h1, -⟩ := hr.out
        exact ⟨_, h1, rfl⟩⟩)
      have hlen := hpl.length_eq
      simp only [List.length_cons] at hlen
      have hp2 : (done ++ [pk] ++ left'.map (·.1)).Perm (L.map (·.1)) := by
        refine List.Perm.trans ?_ hp.out
        rw [List.append_assoc]
        have hq : (pk :: left'.map (fun p : Tid × Value => p.1)).Perm (left.map (fun p : Tid × Value => p.1)) := (List.Perm.map (fun p : Tid × Value => p.1) hpl).symm
        exact List.Perm.append_left done hq
      have hs2 : W.heap.size ≤ w2.heap.size := Nat.le_trans hs.out hg.size
      have hdl : done.length < L.length := by
        have := hp2.length_eq
        simp only [List.length_append, List.length_cons, List.length_nil, List.length_map] at this
        omega
      have HP2 := hid hp2
      have HS2 := hid hs2
      have HLE := hid hlen
      obtain ⟨w3, hw3⟩ : ∃ w3, w2.alloc (.cells #[.int .u8 pk.c, .int .u64 pk.r] 25) = w3 := ⟨_, rfl⟩
      have hb3 : Below w2.heap.size w2 w3 := by rw [← hw3]; exact (Below.refl w2.heap.size w2).alloc (Nat.le_refl _) _
      have hj3 := HA.out done w2 w3 none hj2 (grown_of_below hb3) (fun r e => by cases e)
      have hr3 := hid (hr2.of_walks (KeepsWalks.alloc w2 (.cells #[.int .u8 pk.c, .int .u64 pk.r] 25)))
      rw [hw3] at hr3
      have hB3 : w3.heap[w2.heap.size]? = some (.cells #[.int .u8 pk.c, .int .u64 pk.r] 25 (0, 0)) := by rw [← hw3]; exact World.alloc_heap_new w2 _
      have hcA : w3.cell? ⟨w2.heap.size, 0, none⟩ = some (.int .u8 pk.c) := by simp [World.cell?, hB3]
      have hcB : w3.cell? ⟨w2.heap.size, 1, none⟩ = some (.int .u64 pk.r) := by simp [World.cell?, hB3]
      have hs3 := hid (Nat.le_trans hs2 hb3.size)
      have HP2 := hid hp2
      have HLE := hid hlen
      clear hp hr hj hs hpl hmem hg hp2 hs2 hlen hr2 hr2' hj2 hb3 hB3
      obtain ⟨fn, tmps, assign, body, hy, hR⟩ := HY.out done pk w3 hj3 hdl
      simp only [encT, show tidV pk = .agg #[.int .u8 pk.c, .int .u64 pk.r] from rfl] at hy
      simp only [show tidK.kv pk = .agg #[.int .u8 pk.c, .int .u64 pk.r] from rfl] at hen ⊢
      gi_wp2
      refine hR.mono ?_
      rintro e W3 (⟨rfl, hJ3, hk3⟩ | ⟨rfl, hJx3⟩)
      · have hr4 := hid (hr3.out.of_walks hk3)
        have hs4 := hid (Nat.le_trans hs3.out hk3.1)
        have hle : left'.length < left.length := by have := HLE.out; omega
        gi_wp2
        gi_roundg left'.length
        case rel => exact ⟨done ++ [pk], left', rfl, hr4, HP2, hJ3, hs4⟩
        case measure => exact hle
      · gi_wp2
        refine bodyPost_ret (results_none rfl _ _ _) rfl ?_
        exact ⟨⟨_, rfl⟩, .inr ⟨done ++ [pk], ⟨_, HP2.out⟩, hJx3⟩⟩
end Go.Proofs.YtnkghdakjdhhdaaGreat
end
