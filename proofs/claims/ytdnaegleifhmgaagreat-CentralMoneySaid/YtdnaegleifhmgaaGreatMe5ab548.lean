/- Ce10, Rf0, Rf1, Rf2, Pro3, Pro4, Rf3, Rf4, Rf5, Rf6, Rf7, Rf8, Rf9, SxQ2, Rf10, Rf11, Rf12, Ce11. -/
import Derived.Test.YtdnaegleifhmgaaGreatMd19befa
import Derived.Test.YtdnaegleifhmgaaGreatSxE
import Derived.Test.YtdnaegleifhmgaaGreatM8a8b41c
import Derived.Test.YtdnaegleifhmgaaGreatM575c084
import Derived.Test.YtdnaegleifhmgaaGreatM3fa2fb6
import Derived.BigRegion
import Derived.BigQuiet
import Derived.Deep.QuietTactic
import Derived.Test.YtdnaegleifhmgaaGreatM7ce3b18
set_option maxRecDepth 100000
set_option linter.unusedVariables false
set_option linter.unusedSimpArgs false
set_option linter.unusedSectionVars false
section
namespace Go.Proofs.YtdnaegleifhmgaaGreat
open Go.RowKit Go.Lib Go.Tk Go.Shelf Go.Vc Go.Sx
def IssueLF : Nat := 89
structure Serials (L : List (DocV × DocA)) (c : Int) (k : Nat) : Prop where
  le : k ≤ 1000
  has : ∀ i : Nat, i < k → (dAt L ⟨c, (i : Int) + 1⟩).1.t.r = (i : Int) + 1
  no : lkt (docKV L) ⟨c, (k : Int) + 1⟩ = none
def isArgs (c : Int) (s : SaleV) (A : SaleA) : List SV := [.ptr 0 0 0, .val (.int .u8 c), .agg (salS s (.val (.slice A.la s.legs.length A.lc)) (.val (.slice A.ta s.taxes.length A.tc)))]
theorem ceissue_loop (F : CF) {L : List (DocV × DocA)} {B : LedV} {c : Int} (hc : 0 ≤ c ∧ c ≤ 255) {k : Nat} (hk : Serials L c k) {s : SaleV} {A : SaleA} {ret : SV} {post : Heap}
    (h : ∀ eb R, Go Tryz.prog IssueLF ret ([((0, 9), .fam F)] ++ post) eb R .nrm (rgK Tryz.prog IssueLF 4 []) [(0, .ptr 0 0 0), (1, .val (.int .u8 c)), (5, .ptr 1 0 0), (6, .ptr 1 1 0), (7, eN 0), (8, .val (.int .u64 ((k : Int) + 1)))]
      ([((0, 9), .fam F)] ++ (ledH (docsF L) B ++ [((1, 0), .box none (salS s (.val (.slice A.la s.legs.length A.lc)) (.val (.slice A.ta s.taxes.length A.tc)))), ((1, 1), .box none (docS doc0 nilS nilS nilS))]))) :
    CallOK Tryz.prog IssueLF (isArgs c s A) [((0, 9), .fam F)] (ledH (docsF L) B) ret post := by
  refine callOK_intro (by kernel_rfl) fun eb R => ?_
  refine go_loop (X := { i : Nat // i ≤ k }) 0 [] (fun x => ([(0, .ptr 0 0 0), (1, .val (.int .u8 c)), (5, .ptr 1 0 0), (6, .ptr 1 1 0), (7, eN 0), (8, .val (.int .u64 ((x.1 : Int) + 1)))],
      [((0, 9), .fam F)] ++ (ledH (docsF L) B ++ [((1, 0), .box none (salS s (.val (.slice A.la s.legs.length A.lc)) (.val (.slice A.ta s.taxes.length A.tc)))), ((1, 1), .box none (docS doc0 nilS nilS nilS))])))
    (fun x => k - x.1) ⟨0, Nat.zero_le _⟩ calNone false 400 [] calNone_ok (by kernel_rfl) ?_
  rintro ⟨i, hi⟩ J hJ
  have := hk.le
  have ti : TidOk ⟨c, (i : Int) + 1⟩ := ⟨hc, by show 0 ≤ (i : Int) + 1; omega, by show (i : Int) + 1 ≤ _; omega⟩
  have q1 := look_docs0 L [] ti
  by_cases hlt : i < k
  · have q2 : decide (0 < (dAt L ⟨c, (i : Int) + 1⟩).1.t.r) = true := by rw [hk.has i hlt]; exact decide_eq_true (by omega)
    have q3 : IntKind.u64.wrap ((i : Int) + 1 + 1) = ((i + 1 : Nat) : Int) + 1 := by rw [wr_u64 (by omega)]; omega
    exact leaf_next calNone false 400 [hG 2 7 q1, hB 2 10 _ _ q2, hI 3 1 IntKind.u64 _ _ q3] calNone_ok (hJ ⟨i + 1, hlt⟩ (by show _ - (i + 1) < _ - i; omega)) (by kernel_rfl)
  have he : i = k := by omega
  subst he
  rw [dAt_none hk.no] at q1
  exact leaf_cut (rgK Tryz.prog IssueLF 4 []) _ _ calNone false 400 [hG 2 7 q1, .stop 4] calNone_ok (by kernel_rfl) (h eb R)
def issLE (k : Nat) (n c : Int) (s : SaleV) : Int := bif decide ((32 : Int) < (k : Int) + 1) then 3 else makeE c ((k : Int) + 1) s n
theorem ceissue_no (F : CF) {L : List (DocV × DocA)} {B : LedV} {c : Int} (hc : 0 ≤ c ∧ c ≤ 255) {k : Nat} (hk : Serials L c k) {s : SaleV} {A : SaleA} (ok : SaleOk s) (hl : ∀ b v, Rd (F b v) A.la (cellsL encLeg s.legs)) (ht : ∀ b v, Rd (F b v) A.ta (cellsL encTax s.taxes)) (h1 : SlOk A.la s.legs.length A.lc) (h2 : SlOk A.ta s.taxes.length A.tc) (hm : issLE k B.n c s ≠ 0) :
    CallOK Tryz.prog IssueLF (isArgs c s A) [((0, 9), .fam F)] (ledH (docsF L) B) (.tup [.agg (docS doc0 nilS nilS nilS), eN (issLE k B.n c s)]) (ledH (docsF L) B) := by
  unfold issLE at hm ⊢
  rcases Bool.eq_false_or_eq_true (decide ((32 : Int) < (k : Int) + 1)) with g1 | g1
  · simp only [g1]
    exact ceissue_loop F hc hk fun eb R => leaf_end calNone false 400 [hB 4 1 _ _ g1] calNone_ok (by kernel_rfl)
  · simp only [g1] at hm ⊢
    have c2 := (make_no F ok (c := c) (r := (k : Int) + 1) (n := B.n) hc hl ht (fun e => (h1.nil e).2) (fun e => (h2.nil e).2) hm).mv 9 rfl rfl rfl
    have g2 : (!decide (makeE c ((k : Int) + 1) s B.n = 0)) = true := by simpa using hm
    exact ceissue_loop F hc hk fun eb R => leaf_end calNone false 400 [hB 4 1 _ _ g1, hC 6 8 c2, hB 7 1 _ _ g2] calNone_ok (by kernel_rfl)
end Go.Proofs.YtdnaegleifhmgaaGreat
end
section
namespace Go.Proofs.YtdnaegleifhmgaaGreat
open Go.RowKit Go.Lib Go.Tk Go.Shelf Go.Vc Go.Sx
end Go.Proofs.YtdnaegleifhmgaaGreat
end
section
namespace Go.Proofs.YtdnaegleifhmgaaGreat
open Go.RowKit Go.Lib Go.Tk Go.Shelf Go.Vc Go.Sx
end Go.Proofs.YtdnaegleifhmgaaGreat
end
section
namespace Go.Proofs.YtdnaegleifhmgaaGreat
open Go.RowKit Go.Lib Go.Tk Go.Shelf Go.Vc Go.Sx
end Go.Proofs.YtdnaegleifhmgaaGreat
end
section
namespace Go.Proofs.YtdnaegleifhmgaaGreat
open Go.RowKit Go.Lib Go.Tk Go.Sort Go.Shelf
end Go.Proofs.YtdnaegleifhmgaaGreat
end
section
namespace Go.Proofs.YtdnaegleifhmgaaGreat
open Go.RowKit Go.Lib Go.Tk Go.Sort Go.Shelf
end Go.Proofs.YtdnaegleifhmgaaGreat
end
section
namespace Go.Proofs.YtdnaegleifhmgaaGreat
open Go.RowKit Go.Lib Go.Tk Go.Shelf Go.Vc Go.Sx
end Go.Proofs.YtdnaegleifhmgaaGreat
end
section
namespace Go.Proofs.YtdnaegleifhmgaaGreat
open Go.RowKit Go.Lib Go.Tk Go.Shelf Go.Vc Go.Sx
end Go.Proofs.YtdnaegleifhmgaaGreat
end
section
namespace Go.Proofs.YtdnaegleifhmgaaGreat
open Go.RowKit Go.Lib Go.Tk Go.Shelf Go.Vc Go.Sx
end Go.Proofs.YtdnaegleifhmgaaGreat
end
section
namespace Go.Proofs.YtdnaegleifhmgaaGreat
open Go.RowKit Go.Lib Go.Tk Go.Shelf Go.Vc Go.Sx
end Go.Proofs.YtdnaegleifhmgaaGreat
end
section
namespace Go.Proofs.YtdnaegleifhmgaaGreat
open Go.RowKit Go.Lib Go.Tk Go.Shelf Go.Vc Go.Sx
end Go.Proofs.YtdnaegleifhmgaaGreat
end
section
namespace Go.Sx
open Go.RowKit Go.Lib Go.Tk Go.Shelf Go.Vc
section
variable {P : Program}
attribute [-go_sem] Value.cells in
end
end Go.Sx
end
section
namespace Go.Proofs.YtdnaegleifhmgaaGreat
open Go.RowKit Go.Lib Go.Tk Go.Shelf Go.Vc Go.Sx
end Go.Proofs.YtdnaegleifhmgaaGreat
end
section
namespace Go.Sx
open Go.RowKit Go.Tk Go.Lib Go.Shelf Go.Vc
variable {P : Program}
noncomputable local instance : DecidableEq Value := Classical.typeDecidableEq Value
end Go.Sx
end
section
namespace Go.Sx
open Go.RowKit Go.Lib Go.Tk Go.Shelf Go.Vc
section
variable {P : Program} {α : Type} {enc : α → List Value} {E size : Nat}
theorem QF.isL {w : World} {v : Value} {n : Nat} {xs : List Value} (h : QF E size w v n xs) : ∃ a c, v = .slice a n c ∧ n ≤ c := by
  obtain ⟨hl, ⟨h1, h2⟩ | ⟨g, lo, cap, cur, hv, -, h3, -⟩⟩ := h
  · exact ⟨none, 0, by rw [h1, h2], by omega⟩
  · exact ⟨_, cap, hv, h3⟩
theorem QF.src {t e' : TypeId} {w : World} {v : Value} {n i : Nat} {xs : List Value} (h : QF E size w v n xs) (hi : i ≤ n) (h1 : ∀ u ∈ xs, u.oneCell' = true) (hT : P.underlying t = some (.slice e')) : Go.Src P size t (winV v size i (n - i)) (n - i) (xs.drop (i * size)) w := by
  have hlen : (xs.drop (i * size)).length = (n - i) * size := by rw [List.length_drop, h.1, Nat.sub_mul]
  obtain ⟨a, c, hv, hle⟩ := h.isL
  subst hv
  cases a with
  | none =>
    have hn : n = 0 := by
      rcases h.2 with ⟨-, h2⟩ | ⟨g, lo, cap, cur, hv, -⟩
      · exact h2
      · cases hv
    have hx : xs = [] := List.length_eq_zero_iff.1 (by rw [h.1, hn, Nat.zero_mul])
    subst hn; subst hx
    have hi0 : i = 0 := by omega
    subst hi0
    have e0 : winV (.slice none 0 c) size 0 (0 - 0) = .slice none 0 c := by simp [winV]
    rw [e0, List.drop_nil]
    exact Go.Src.ofNil (P := P) w hT c
  | some ad =>
    have e0 : ∃ ad', winV (.slice (some ad) n c) size i (n - i) = .slice (some ad') (n - i) (c - i) ∧ (i < n → ad' = ad.add (i * size)) := by
      unfold winV
      by_cases hc : c = i
      · exact ⟨ad, by simp only [if_pos hc], fun h => by omega⟩
      · exact ⟨ad.add (i * size), by simp only [if_neg hc, Option.map_some], fun _ => rfl⟩
    obtain ⟨ad', e1, e2⟩ := e0
    rw [e1]
    refine Go.Src.ofSlice (P := P) w hT ad' (n - i) (c - i) _ hlen (fun j u hj => ?_) fun u hu => h1 u (List.mem_of_mem_drop hu)
    have hjl := (List.getElem?_eq_some_iff.1 hj).1
    have hin : i < n := by
      rcases Nat.lt_or_ge i n with q | q
      · exact q
      · rw [hlen, show n - i = 0 by omega, Nat.zero_mul] at hjl; omega
    rw [List.getElem?_drop] at hj
    obtain ⟨g, off, cap, hv, hc⟩ := h.cell hj
    cases hv
    rw [e2 hin]
    have : (Addr.add (Addr.add ⟨g, off, none⟩ (i * size)) j) = ⟨g, off + (i * size + j), none⟩ := by rw [addr_add, addr_add, Nat.add_assoc]
    rw [this]; exact hc
theorem QF.head {w : World} {v : Value} {n i : Nat} {xs : List Value} (h : QF E size w v n xs) (hi : i ≤ n) : QF E size w (winV v size 0 i) i (xs.take (i * size)) := by
  have hlen : (xs.take (i * size)).length = i * size := by rw [List.length_take, h.1]; exact Nat.min_eq_left (Nat.mul_le_mul_right _ hi)
  refine ⟨hlen, ?_⟩
  rcases h.2 with ⟨h1, h2⟩ | ⟨g, lo, cap, cur, hv, hb, h1, h2, h3, h4⟩
  · left
    have : i = 0 := by omega
    subst this
    rw [h1]; exact ⟨by unfold winV; simp, rfl⟩
  · right
    refine ⟨g, lo, cap, cur, ?_, hb, by omega, h2, h3, ?_⟩
    · rw [hv]; unfold winV
      have : (Addr.add ⟨g, lo * size, none⟩ (0 * size)) = (⟨g, lo * size, none⟩ : Addr) := by rw [addr_add]; simp
      by_cases hc : cap = 0
      · simp [hc]
      · simp only [if_neg hc, Option.map_some, this]; rfl
    · rw [← h4, List.take_take, Nat.min_eq_left (Nat.mul_le_mul_right _ hi)]
end
end Go.Sx
end
section
namespace Go.Proofs.YtdnaegleifhmgaaGreat
open Go.RowKit Go.Lib Go.Tk Go.Shelf Go.Vc Go.Sx
end Go.Proofs.YtdnaegleifhmgaaGreat
end
section
namespace Go.Sx
open Go.RowKit Go.Lib Go.Tk Go.Shelf Go.Vc
theorem lkS_knS {s k : Nat} {v : Value} {d : Nat} {u : SV} : ∀ {sl : Slots}, lkS sl d = some u → lkS (knSl (s, k) v sl) d = some (u.kn s k v)
  | [], h => by cases h
  | (d', x) :: sl, h => by
    unfold lkS at h
    unfold knSl
    rw [List.map_cons]
    unfold lkS
    cases hb : Nat.beq d' d with
    | true => rw [hb] at h; cases h; rfl
    | false => rw [hb] at h; exact lkS_knS h
theorem go_raw {P : Program} {f : Nat} {ret : SV} {rp : Heap} {eb : Env} {R : List Chunk} {e : Ex} {K : List It} {sl : Slots} {H : Heap} (k : Nat) (a : Option Addr) (m c : Nat) (sl' : Slots) (H' : Heap) (h1 : sl = knSl (1, k) (.slice a m c) sl') (h2 : H = knH (1, k) (.slice a m c) H')
    (h3 : sl.all (fun x => x.2.ok (isNm k)) = true) (h4 : hok (isNm k) H = true) (h5 : sl'.all (fun x => x.2.ok (ltB 2)) = true) (h6 : hok (ltB 2) H' = true) (h : Go P f ret rp eb R e K sl' H') : Go P f ret rp eb R e K sl H := by
  intro ε a' w hr
  subst h1; subst h2
  have key : ∀ s j, isNm k s j = true → ε s j = eset ε 1 (fun j => bif Nat.beq j k then (0, Value.slice a m c) else ε 1 j) s j := fun s j hs => by
    by_cases h0 : s = 1
    · subst h0
      rw [eset_at]
      cases hb : Nat.beq j k with
      | false => rfl
      | true => unfold isNm at hs; rw [hb] at hs; cases hs
    · rw [eset_ne h0]
  have ek : asSl (eset ε 1 (fun j => bif Nat.beq j k then (0, Value.slice a m c) else ε 1 j) (1, k).1 (1, k).2).2 = .slice a m c := by
    show asSl (eset ε 1 _ 1 k).2 = _
    rw [eset_at, Nat.beq_refl]; rfl
  have en : names (knH (1, k) (.slice a m c) H') = names H' := by unfold names knH; rw [List.map_map]; rfl
  refine h (eset ε 1 fun j => bif Nat.beq j k then (0, Value.slice a m c) else ε 1 j) a' w ⟨hr.size, hr.defers, ?_, ?_, ?_, h6, ?_, hr.pos⟩
  · intro d v hv
    have hm := lkS_mem hv
    refine ⟨?_, List.all_eq_true.1 h5 _ hm⟩
    have hv2 : lkS (knSl (1, k) (.slice a m c) sl') d = some (v.kn 1 k (.slice a m c)) := lkS_knS hv
    have h7 := hr.slots d _ hv2
    rw [h7.1]
    have hok : (v.kn 1 k (.slice a m c)).ok (isNm k) = true := List.all_eq_true.1 h3 _ (lkS_mem hv2)
    rw [SV.den_congr key _ hok, SV.kn_den ek]
  · have h7 := hr.mem
    rw [hden_congr key h4] at h7
    have e1 : hden (eset ε 1 fun j => bif Nat.beq j k then (0, Value.slice a m c) else ε 1 j) (knH (1, k) (.slice a m c) H') = hden (eset ε 1 fun j => bif Nat.beq j k then (0, Value.slice a m c) else ε 1 j) H' := by
      unfold hden knH
      rw [List.map_map]
      exact List.map_congr_left fun x _ => SC.kn_den ek x.1 x.2
    rw [e1] at h7
    exact h7
  · rw [← en]; exact hr.nd
  · intro t ht
    rw [eset_ne (by omega)]
    exact hr.e0 t ht
end Go.Sx
namespace Go.Proofs.YtdnaegleifhmgaaGreat
open Go.RowKit Go.Lib Go.Tk Go.Shelf Go.Vc Go.Sx
def nrm (p : DocV × DocA) : DocV × SaleA := (p.1, ⟨p.2.la, p.2.lc, p.2.ta, p.2.tc⟩)
end Go.Proofs.YtdnaegleifhmgaaGreat
end
section
namespace Go.Proofs.YtdnaegleifhmgaaGreat
open Go.RowKit Go.Lib Go.Tk Go.Shelf Go.Vc Go.Sx
def docsE (L : List (DocV × DocA)) (d : DocV) : Nat → Value → List Value → Chunk := fun b v vs => match vs with
  | [.slice la n1 lc, .slice ta n2 tc, .slice va n3 vc] => andC (docsF (L ++ [(d, ⟨la, lc, ta, tc, va, vc⟩)]) b v) (n1 = d.s.legs.length ∧ n2 = d.s.taxes.length ∧ n3 = d.vals.length)
  | _ => pureC False
def slipNew (k : Kid) (l : Leg) (v : Int) : SlipV := ⟨⟨k, false, k.t.c, 1, 0, false⟩, l, v⟩
def issS (t : Tid) (s : SaleV) (vs : List Int) (S : SlipsV) : Nat → SlipsV
  | 0 => S
  | i + 1 => putt (issS t s vs S i) ⟨t, (i : Int)⟩ (slipNew ⟨t, (i : Int)⟩ (s.legs.getD i leg0) (vs.getD i 0))
def ledM (L : List (DocV × DocA)) (d : DocV) (B : LedV) : Heap := [((0, 0), .box none [.val (.int .i64 B.n), .map 0 1, .map 0 2]), ((0, 1), .famE [.raw 1 0, .raw 1 1, .raw 1 2] (docsE L d)), ((0, 2), slipsF B.slips)]
theorem ceissue_ok (F : CF) {L : List (DocV × DocA)} {B : LedV} (hb : LedOk B) (hL : L.map (·.1) = B.docs) {c : Int} (hc : 0 ≤ c ∧ c ≤ 255) {k : Nat} (hk : Serials L c k) {s : SaleV} {A : SaleA} (ok : SaleOk s) (hl : ∀ b v, Rd (F b v) A.la (cellsL encLeg s.legs)) (ht : ∀ b v, Rd (F b v) A.ta (cellsL encTax s.taxes)) (h1 : SlOk A.la s.legs.length A.lc) (h2 : SlOk A.ta s.taxes.length A.tc) (hm : issLE k B.n c s = 0) :
    CallOK Tryz.prog IssueLF (isArgs c s A) [((0, 9), .fam F)] (ledH (docsF L) B) (.tup [.agg (docS (docMade ⟨c, (k : Int) + 1⟩ s) (.raw 1 0) (.raw 1 1) (.raw 1 2)), eN 0])
      (ledM L (docMade ⟨c, (k : Int) + 1⟩ s) (B.setS (issS ⟨c, (k : Int) + 1⟩ s (shareV s.fare (wsOf s)) B.slips (shareV s.fare (wsOf s)).length))) := by
  have g1 : decide ((32 : Int) < (k : Int) + 1) = false := by
    cases h : decide ((32 : Int) < (k : Int) + 1) with
    | false => rfl
    | true => unfold issLE at hm; rw [h] at hm; cases hm
  have hm : makeE c ((k : Int) + 1) s B.n = 0 := by unfold issLE at hm; rw [g1] at hm; exact hm
  have hk32 : (k : Int) + 1 ≤ 32 := by have := of_decide_eq_false g1; omega
  have c2 := (make_ok F ok (c := c) (r := (k : Int) + 1) (n := B.n) hc hl ht h1 h2 hm).mv 9 rfl rfl rfl
  have hck : checkE s B.n = 0 := by
    unfold makeE at hm
    split at hm
    · cases hm
    · exact hm
  obtain ⟨-, -, hsh, -⟩ := check_shape hck
  obtain ⟨hS, -, l1, l4, -, -⟩ := shape_share ok hsh
  have hvl : (shareV s.fare (wsOf s)).length = s.legs.length := by rw [shareV_len hS, ws_len]
  obtain ⟨t, et⟩ : ∃ t : Tid, t = ⟨c, (k : Int) + 1⟩ := ⟨_, rfl⟩
  have t0 : TidOk t := by rw [et]; exact ⟨hc, by show 0 ≤ (k : Int) + 1; omega, by show (k : Int) + 1 ≤ _; omega⟩
  have kn := kv_nodup hL hb.nodup
  have g2 : (!decide ((0 : Int) = 0)) = false := rfl
  refine ceissue_loop F hc hk fun eb R => ?_
  refine leaf_cut (rgK Tryz.prog IssueLF 9 []) [(0, .ptr 0 0 0), (1, .val (.int .u8 c)), (5, .ptr 1 0 0), (6, .ptr 1 1 0), (9, .ptr 1 2 0)]
    ([((0, 9), .fam F)] ++ (ledH (docsF L) B ++ [((1, 0), .box none (salS s (.val (.slice A.la s.legs.length A.lc)) (.val (.slice A.ta s.taxes.length A.tc)))), ((1, 1), .box none (docS doc0 nilS nilS nilS)), ((1, 2), .box none (docS (docMade ⟨c, (k : Int) + 1⟩ s) (.raw 1 3) (.raw 1 4) (.raw 1 5))), ((1, 3), legR s.legs.length s.legs), ((1, 4), taxR s.taxes.length s.taxes), ((1, 5), i64R (shareV s.fare (wsOf s)).length (shareV s.fare (wsOf s)))]))
    calNone false 400 [hB 4 1 _ _ g1, hC 6 8 c2, .stop 9] calNone_ok (by kernel_rfl) ?_
  refine go_row (1, 3) 43 3 s.legs.length (cellsL encLeg s.legs) (by kernel_rfl) fun la lc hla => ?_
  refine go_row (1, 4) 126 2 s.taxes.length (cellsL encTax s.taxes) (by kernel_rfl) fun ta tc hta => ?_
  refine go_row (1, 5) 2 1 (shareV s.fare (wsOf s)).length ((shareV s.fare (wsOf s)).map (.int .i64)) (by kernel_rfl) fun va vc hva => ?_
  obtain ⟨D, eD⟩ : ∃ D : DocV, D = docMade ⟨c, (k : Int) + 1⟩ s := ⟨_, rfl⟩
  refine go_as [(0, .ptr 0 0 0), (1, .val (.int .u8 c)), (5, .ptr 1 0 0), (6, .ptr 1 1 0), (9, .ptr 1 2 0)] ([((0, 9), .fam F)] ++ (ledH (docsF L) B ++ [((1, 0), .box none (salS s (.val (.slice A.la s.legs.length A.lc)) (.val (.slice A.ta s.taxes.length A.tc)))), ((1, 1), .box none (docS doc0 nilS nilS nilS)), ((1, 2), .box none (docSA (docMade ⟨c, (k : Int) + 1⟩ s) ⟨la, lc, ta, tc, va, vc⟩)), ((1, 3), .fam fun _ _ => rowC 43 3 (.slice la s.legs.length lc) s.legs.length (cellsL encLeg s.legs)), ((1, 4), .fam fun _ _ => rowC 126 2 (.slice ta s.taxes.length tc) s.taxes.length (cellsL encTax s.taxes)), ((1, 5), .fam fun _ _ => rowC 2 1 (.slice va (shareV s.fare (wsOf s)).length vc) (shareV s.fare (wsOf s)).length ((shareV s.fare (wsOf s)).map (.int .i64)))]))
    (by kernel_rfl) (by kernel_rfl) ?_
  refine go_open (X := Unit) (fun _ => [((0, 1), .fam (docsG L [(docMade ⟨c, (k : Int) + 1⟩ s, ⟨la, lc, ta, tc, va, vc⟩)])), ((0, 9), .fam F), ((0, 0), .box none [.val (.int .i64 B.n), .map 0 1, .map 0 2]), ((0, 2), slipsF B.slips), ((1, 0), .box none (salS s (.val (.slice A.la s.legs.length A.lc)) (.val (.slice A.ta s.taxes.length A.tc)))), ((1, 1), .box none (docS doc0 nilS nilS nilS)), ((1, 2), .box none (docSA (docMade ⟨c, (k : Int) + 1⟩ s) ⟨la, lc, ta, tc, va, vc⟩))])
    (fun ε w hM => by
      have m1 := (((hM.front 9 rfl).front 9 rfl).front 9 rfl).front 5 rfl
      exact ⟨(), docs_join (p := (docMade ⟨c, (k : Int) + 1⟩ s, ⟨la, lc, ta, tc, va, vc⟩)) rfl rfl rfl m1⟩) (fun _ => by kernel_rfl) fun _ => ?_
  have hnk : (⟨c, (k : Int) + 1⟩ : Tid) ∉ (docKV L).map (·.1) := fun h => by
    obtain ⟨q, hq, he⟩ := List.mem_map.1 h
    have := lkt_of kn (k := q.1) (a := q.2) hq
    rw [he, hk.no] at this
    cases this
  have hp : (putt (docKV L) (docMade ⟨c, (k : Int) + 1⟩ s).t (docMade ⟨c, (k : Int) + 1⟩ s, ⟨la, lc, ta, tc, va, vc⟩)).Perm (docKV (L ++ [(docMade ⟨c, (k : Int) + 1⟩ s, ⟨la, lc, ta, tc, va, vc⟩)])) := by
    rw [putt_new _ _ (show (docMade ⟨c, (k : Int) + 1⟩ s).t ∉ _ from hnk)]
    simp [docKV]
  have c3 := upd_docs L (L ++ [(docMade ⟨c, (k : Int) + 1⟩ s, ⟨la, lc, ta, tc, va, vc⟩)]) (docMade ⟨c, (k : Int) + 1⟩ s, ⟨la, lc, ta, tc, va, vc⟩) (show TidOk ⟨c, (k : Int) + 1⟩ from et ▸ t0) hp
  have hmem : (docMade ⟨c, (k : Int) + 1⟩ s, (⟨la, lc, ta, tc, va, vc⟩ : DocA)) ∈ L ++ [(docMade ⟨c, (k : Int) + 1⟩ s, ⟨la, lc, ta, tc, va, vc⟩)] := List.mem_append_right _ (List.mem_singleton.2 rfl)
  have hrd := docs_rd (M := []) (.inl hmem)
  refine go_loop (X := { i : Nat // i ≤ s.legs.length }) 1 [] (fun x => ([(0, .ptr 0 0 0), (1, .val (.int .u8 c)), (5, .ptr 1 0 0), (6, .ptr 1 1 0), (9, .ptr 1 2 0), (54, .val (.slice va (shareV s.fare (wsOf s)).length vc)), (55, .val (.int .i64 ((shareV s.fare (wsOf s)).length : Int))), (56, .val (.int .i64 (x.1 : Int)))],
      [((0, 1), .fam (docsF (L ++ [(docMade ⟨c, (k : Int) + 1⟩ s, ⟨la, lc, ta, tc, va, vc⟩)]))), ((0, 9), .fam F), ((0, 0), .box none [.val (.int .i64 B.n), .map 0 1, .map 0 2]), ((0, 2), slipsF (issS ⟨c, (k : Int) + 1⟩ s (shareV s.fare (wsOf s)) B.slips x.1)), ((1, 0), .box none (salS s (.val (.slice A.la s.legs.length A.lc)) (.val (.slice A.ta s.taxes.length A.tc)))), ((1, 1), .box none (docS doc0 nilS nilS nilS)), ((1, 2), .box none (docSA (docMade ⟨c, (k : Int) + 1⟩ s) ⟨la, lc, ta, tc, va, vc⟩))]))
    (fun x => s.legs.length - x.1) ⟨0, Nat.zero_le _⟩ calNone false 400 [hG 9 7 c3] calNone_ok (by kernel_rfl) ?_
  rintro ⟨i, hi⟩ J hJ
  by_cases h : i < s.legs.length
  · have q1 : decide ((i : Int) < ((shareV s.fare (wsOf s)).length : Int)) = true := decide_eq_true (by omega)
    have hv : i < (shareV s.fare (wsOf s)).length := by omega
    have q2 := idx_openG (P := Tryz.prog) (t := 74) (e := 2) (size := 1) (j := 1) (k := .i64) (cap := vc) (n := (shareV s.fare (wsOf s)).length) Tryz.underlying74 (by kernel_rfl) (by rw [List.length_map, Nat.mul_one]; rfl) hrd.2.2 hv
    have q3 := load_openG0 (P := Tryz.prog) (t := 2) (k := i * 1) (j := 1) (cs := [.val (.int .i64 ((shareV s.fare (wsOf s)).getD i 0))]) (u := .val (.int .i64 ((shareV s.fare (wsOf s)).getD i 0))) (by kernel_rfl) hrd.2.2 (fun ε q v hq => by
      cases q with
      | succ q => cases hq
      | zero =>
        cases hq
        show ((shareV s.fare (wsOf s)).map (Value.int .i64))[i * 1 + 0]? = _
        rw [Nat.mul_one, Nat.add_zero, List.getElem?_map, getD_some hv 0]; rfl) (by rw [List.length_map]; show 0 < (shareV s.fare (wsOf s)).length; omega)
    have q4 := idx_openG (P := Tryz.prog) (t := 32) (e := 43) (size := 3) (j := 9) (k := .i64) (cap := A.lc) (n := s.legs.length) Tryz.underlying32 (by kernel_rfl) (cellsL_len encLeg_len _) hl h
    have q5 := load_openG0 (P := Tryz.prog) (t := 43) (k := i * 3) (j := 9) (cs := legS' (s.legs.getD i leg0)) (u := .agg (legS' (s.legs.getD i leg0))) (by kernel_rfl) hl (legS_nth (getD_some h leg0)) (by rw [cellsL_len encLeg_len]; omega)
    have q6 : IntKind.u8.wrap (i : Int) = (i : Int) := wr_u8 (by omega)
    have q7 := upd_slips (issS ⟨c, (k : Int) + 1⟩ s (shareV s.fare (wsOf s)) B.slips i) (k := ⟨⟨c, (k : Int) + 1⟩, (i : Int)⟩) ⟨et ▸ t0, by show 0 ≤ (i : Int); omega, by show (i : Int) ≤ 255; omega⟩ (slipNew ⟨⟨c, (k : Int) + 1⟩, (i : Int)⟩ (s.legs.getD i leg0) ((shareV s.fare (wsOf s)).getD i 0)) (List.Perm.refl _)
    have q8 : IntKind.i64.wrap ((i : Int) + 1) = ((i + 1 : Nat) : Int) := by rw [wr_i64 (by omega)]; omega
    exact leaf_next calNone false 400 [hB 11 0 _ _ q1, hG 12 1 q2, hG 12 2 q3, hI 13 3 IntKind.u8 _ _ q6, hG 14 11 q4, hG 14 12 q5, hG 14 15 q7, hI 15 0 IntKind.i64 _ _ q8] calNone_ok (hJ ⟨i + 1, h⟩ (by show _ - (i + 1) < _ - i; omega)) (by kernel_rfl)
  have he : i = (shareV s.fare (wsOf s)).length := by omega
  subst he
  have q1 : decide (((shareV s.fare (wsOf s)).length : Int) < ((shareV s.fare (wsOf s)).length : Int)) = false := decide_eq_false (by omega)
  refine leaf_cut (rgK Tryz.prog IssueLF 16 []) [(6, .ptr 1 1 0), (9, .ptr 1 2 0)]
      [((0, 1), .fam (docsF (L ++ [(docMade ⟨c, (k : Int) + 1⟩ s, ⟨la, lc, ta, tc, va, vc⟩)]))), ((0, 9), .fam F), ((0, 0), .box none [.val (.int .i64 B.n), .map 0 1, .map 0 2]), ((0, 2), slipsF (issS ⟨c, (k : Int) + 1⟩ s (shareV s.fare (wsOf s)) B.slips (shareV s.fare (wsOf s)).length)), ((1, 1), .box none (docS doc0 nilS nilS nilS)), ((1, 2), .box none (docSA (docMade ⟨c, (k : Int) + 1⟩ s) ⟨la, lc, ta, tc, va, vc⟩))]
      calNone false 400 [hB 11 0 _ _ q1, .stop 16] calNone_ok (by kernel_rfl) ?_
  refine go_open (X := Unit) (fun _ => [((0, 1), .famE [.val (.slice la s.legs.length lc), .val (.slice ta s.taxes.length tc), .val (.slice va (shareV s.fare (wsOf s)).length vc)] (docsE L (docMade ⟨c, (k : Int) + 1⟩ s))), ((0, 9), .fam F), ((0, 0), .box none [.val (.int .i64 B.n), .map 0 1, .map 0 2]), ((0, 2), slipsF (issS ⟨c, (k : Int) + 1⟩ s (shareV s.fare (wsOf s)) B.slips (shareV s.fare (wsOf s)).length)), ((1, 1), .box none (docS doc0 nilS nilS nilS)), ((1, 2), .box none (docSA (docMade ⟨c, (k : Int) + 1⟩ s) ⟨la, lc, ta, tc, va, vc⟩))])
    (fun ε w hM => ⟨(), by
      have h1 : Mem (docsF (L ++ [(docMade ⟨c, (k : Int) + 1⟩ s, ⟨la, lc, ta, tc, va, vc⟩)]) (ε 0 1).1 (ε 0 1).2 :: _) w := hM
      exact h1.weaken (c' := andC (docsF (L ++ [(docMade ⟨c, (k : Int) + 1⟩ s, ⟨la, lc, ta, tc, va, vc⟩)]) (ε 0 1).1 (ε 0 1).2) (s.legs.length = s.legs.length ∧ s.taxes.length = s.taxes.length ∧ (shareV s.fare (wsOf s)).length = (shareV s.fare (wsOf s)).length)) (fun S hS => ⟨hS, rfl, rfl, rfl⟩)⟩) (fun _ => by kernel_rfl) fun _ => ?_
  refine go_raw 20 la s.legs.length lc [(6, .ptr 1 1 0), (9, .ptr 1 2 0)] [((0, 1), .famE [.raw 1 20, .val (.slice ta s.taxes.length tc), .val (.slice va (shareV s.fare (wsOf s)).length vc)] (docsE L (docMade ⟨c, (k : Int) + 1⟩ s))), ((0, 9), .fam F), ((0, 0), .box none [.val (.int .i64 B.n), .map 0 1, .map 0 2]), ((0, 2), slipsF (issS ⟨c, (k : Int) + 1⟩ s (shareV s.fare (wsOf s)) B.slips (shareV s.fare (wsOf s)).length)), ((1, 1), .box none (docS doc0 nilS nilS nilS)), ((1, 2), .box none (docS (docMade ⟨c, (k : Int) + 1⟩ s) (.raw 1 20) (.val (.slice ta s.taxes.length tc)) (.val (.slice va (shareV s.fare (wsOf s)).length vc))))] (by kernel_rfl) (by kernel_rfl) (by kernel_rfl) (by kernel_rfl) (by kernel_rfl) (by kernel_rfl) ?_
  refine go_raw 21 ta s.taxes.length tc [(6, .ptr 1 1 0), (9, .ptr 1 2 0)] [((0, 1), .famE [.raw 1 20, .raw 1 21, .val (.slice va (shareV s.fare (wsOf s)).length vc)] (docsE L (docMade ⟨c, (k : Int) + 1⟩ s))), ((0, 9), .fam F), ((0, 0), .box none [.val (.int .i64 B.n), .map 0 1, .map 0 2]), ((0, 2), slipsF (issS ⟨c, (k : Int) + 1⟩ s (shareV s.fare (wsOf s)) B.slips (shareV s.fare (wsOf s)).length)), ((1, 1), .box none (docS doc0 nilS nilS nilS)), ((1, 2), .box none (docS (docMade ⟨c, (k : Int) + 1⟩ s) (.raw 1 20) (.raw 1 21) (.val (.slice va (shareV s.fare (wsOf s)).length vc))))] (by kernel_rfl) (by kernel_rfl) (by kernel_rfl) (by kernel_rfl) (by kernel_rfl) (by kernel_rfl) ?_
  refine go_raw 22 va (shareV s.fare (wsOf s)).length vc [(6, .ptr 1 1 0), (9, .ptr 1 2 0)] [((0, 1), .famE [.raw 1 20, .raw 1 21, .raw 1 22] (docsE L (docMade ⟨c, (k : Int) + 1⟩ s))), ((0, 9), .fam F), ((0, 0), .box none [.val (.int .i64 B.n), .map 0 1, .map 0 2]), ((0, 2), slipsF (issS ⟨c, (k : Int) + 1⟩ s (shareV s.fare (wsOf s)) B.slips (shareV s.fare (wsOf s)).length)), ((1, 1), .box none (docS doc0 nilS nilS nilS)), ((1, 2), .box none (docS (docMade ⟨c, (k : Int) + 1⟩ s) (.raw 1 20) (.raw 1 21) (.raw 1 22)))] (by kernel_rfl) (by kernel_rfl) (by kernel_rfl) (by kernel_rfl) (by kernel_rfl) (by kernel_rfl) ?_
  exact leaf_end calNone false 400 [] calNone_ok (by kernel_rfl)
end Go.Proofs.YtdnaegleifhmgaaGreat
end
