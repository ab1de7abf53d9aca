/- TICKET 20: a document's balance: what the program reckons is what the document says. -/
import Derived.Test.YtijldpkchmpjkaaTick19
namespace Go.Proofs.Ytijldpkchmpjkaa
open Go.RowKit Go.Lib Go.Tk

structure DocV where
  c : Int
  r : Int
  s : SaleV
  vals : List Int
  fc : Int
  fr : Int
  tc : Int
  tr : Int
  cred : Int
  paid : Int
  back : Int
  kept : Int
  left : Int
structure DocA where
  S : SaleA
  va : Option Addr
  vc : Nat
def I64 (x : Int) : Prop := -9223372036854775808 ≤ x ∧ x ≤ 9223372036854775807
structure DocOk (d : DocV) : Prop where
  vals : ∀ x ∈ d.vals, I64 x
  cred : I64 d.cred
  paid : I64 d.paid
  back : I64 d.back
  kept : I64 d.kept
  left : I64 d.left
def docArr (d : DocV) (D : DocA) : Array Value :=
  #[.int .u8 d.c, .int .u64 d.r, .string d.s.name, .slice D.S.la d.s.legs.length D.S.lc, .int .i64 d.s.fare, .slice D.S.ta d.s.taxes.length D.S.tc, .int .i64 d.s.pen, .slice D.va d.vals.length D.vc, .int .u8 d.fc, .int .u64 d.fr, .int .u8 d.tc, .int .u64 d.tr, .int .i64 d.cred, .int .i64 d.paid, .int .i64 d.back, .int .i64 d.kept, .int .i64 d.left]
def docAgg (d : DocV) (D : DocA) : Value := .agg (docArr d D)
structure DocAt (w : World) (d : DocV) (D : DocA) : Prop where
  sale : SaleAt w d.s D.S
  vals : Row w D.va (d.vals.map (.int .i64))
theorem DocAt.kept {w w' : World} {d : DocV} {D : DocA} (h : DocAt w d D) (hb : Below w.heap.size w w') : DocAt w' d D := ⟨h.sale.kept hb, h.vals.kept hb⟩

/-- what is taken off, of pairs of statuses and values -/
def lessZ (z : List (Int × Int)) : List Int := (z.filter (fun p => decide (p.1 ≤ 4))).map (·.2)
def lessL (vals st : List Int) : List Int := lessZ (st.zip vals)
theorem lessZ_snoc (z : List (Int × Int)) (p : Int × Int) : lessZ (z ++ [p]) = if p.1 ≤ 4 then lessZ z ++ [p.2] else lessZ z := by
  unfold lessZ
  by_cases h : p.1 ≤ 4
  · rw [if_pos h, List.filter_append, List.map_append]; simp [h]
  · rw [if_neg h, List.filter_append, List.map_append]; simp [h]
theorem lessZ_len (z : List (Int × Int)) : (lessZ z).length ≤ z.length := by unfold lessZ; rw [List.length_map]; exact List.length_filter_le _ _
theorem zip_step {st vals : List Int} {k : Nat} (h1 : k < st.length) (h2 : k < vals.length) : (st.zip vals).take (k + 1) = (st.zip vals).take k ++ [(st[k], vals[k])] := by
  have h : k < (st.zip vals).length := by rw [List.length_zip]; omega
  rw [List.take_succ_eq_append_getElem h, List.getElem_zip]
theorem less_yes {st vals : List Int} {k : Nat} (h1 : k < st.length) (h2 : k < vals.length) (h : st[k] ≤ 4) : lessZ ((st.zip vals).take (k + 1)) = lessZ ((st.zip vals).take k) ++ [vals[k]] := by
  rw [zip_step h1 h2, lessZ_snoc, if_pos h]
theorem less_no {st vals : List Int} {k : Nat} (h1 : k < st.length) (h2 : k < vals.length) (h : ¬ st[k] ≤ 4) : lessZ ((st.zip vals).take (k + 1)) = lessZ ((st.zip vals).take k) := by
  rw [zip_step h1 h2, lessZ_snoc, if_neg h]
theorem less_all {st vals : List Int} (h : st.length = vals.length) : lessZ ((st.zip vals).take st.length) = lessL vals st := by
  unfold lessL; rw [List.take_of_length_le (by rw [List.length_zip]; omega)]

def subStep (s : Int × Int) (a : Int) : Int × Int := if s.2 = 0 then subI s.1 a else s
def subAll (s : Int × Int) (l : List Int) : Int × Int := l.foldl subStep s
theorem subAll_drop {s : Int × Int} {l : List Int} {k : Nat} (h : k < l.length) : subAll s (l.drop k) = subAll (subStep s l[k]) (l.drop (k + 1)) := by
  unfold subAll; rw [List.drop_eq_getElem_cons h]; rfl
def badSt (st : List Int) : Bool := st.any (fun s => !stB s)
def lessAll (d : DocV) (st : List Int) : List Int := [d.back, d.kept, d.left] ++ lessL d.vals st
def balOk (d : DocV) (st : List Int) (pl : Nat) : Prop := st.length = d.vals.length ∧ pl = d.vals.length ∧ badSt st = false
instance (d : DocV) (st : List Int) (pl : Nat) : Decidable (balOk d st pl) := inferInstanceAs (Decidable (_ ∧ _ ∧ _))
def balI (d : DocV) (st : List Int) (pl : Nat) : Int × Int := if balOk d st pl then subAll (sumFrom 0 [d.paid, d.cred]) (lessAll d st) else (0, 1)

/-! ### by the document -/
def negI (x : Int) : Int := wrap64 (-x)
def rlist (d : DocV) (st : List Int) : List Int := [d.cred, negI d.back, negI d.kept, negI d.left] ++ (lessL d.vals st).map negI
/-- one by one; where an amount, or a sum, may not be: nothing -/
def goSum (s : Int) (l : List Int) : Int × Int := if mayI s then sumFrom s l else (0, 7)
def rbalI (d : DocV) (st : List Int) (pl : Nat) : Int × Int := if balOk d st pl then goSum d.paid (rlist d st) else (0, 1)

theorem negI_small {x : Int} (h : mayI x = true) : negI x = -x := by
  have := mayI_of h
  unfold negI wrap64; omega
theorem negI_may {x : Int} (h : I64 x) : mayI (negI x) = mayI x := by
  obtain ⟨h1, h2⟩ := h
  cases hm : mayI x with
  | true => rw [negI_small hm]; have := mayI_of hm; unfold mayI; simp; omega
  | false =>
    have hx : x < -1125899906842624 ∨ 1125899906842624 < x := by
      simp only [mayI, Bool.and_eq_false_iff, decide_eq_false_iff_not] at hm; omega
    cases hq : mayI (negI x) with
    | false => rfl
    | true =>
      have := mayI_of hq
      unfold negI wrap64 at this
      omega
theorem add_neg {s x : Int} (h : I64 x) : addI s (negI x) = subI s x := by
  unfold addI subI
  rw [negI_may h]
  cases hm : mayI x with
  | false => simp
  | true => rw [negI_small hm]; rfl
theorem subAll_bad : ∀ (l : List Int) (s : Int × Int), s.2 ≠ 0 → subAll s l = s
  | [], s, _ => rfl
  | a :: l, s, h => by
    have := subAll_bad l s h
    unfold subAll at this ⊢
    rw [List.foldl_cons, show subStep s a = s by unfold subStep; rw [if_neg h]]
    exact this
theorem subI_cases (s x : Int) : (subI s x).2 = 0 ∨ subI s x = (0, 7) := by
  unfold subI; split
  · exact .inl rfl
  · exact .inr rfl
theorem subAll_sum : ∀ (l : List Int) (s : Int), (∀ x ∈ l, I64 x) → subAll (s, 0) l = sumFrom s (l.map negI)
  | [], s, _ => rfl
  | a :: l, s, h => by
    have ha := h a (by simp)
    have hl : ∀ x ∈ l, I64 x := fun x hx => h x (by simp [hx])
    rw [List.map_cons, sumFrom, add_neg ha]
    show subAll (subStep (s, 0) a) l = _
    have e : subStep (s, 0) a = subI s a := rfl
    rw [e]
    rcases subI_cases s a with h0 | h7
    · rw [if_pos h0, ← subAll_sum l _ hl]
      congr 1
      exact Prod.ext rfl h0
    · rw [h7, if_neg (by decide), subAll_bad _ _ (by decide)]
theorem mem_less {vals st : List Int} {x : Int} (h : x ∈ lessL vals st) : x ∈ vals := by
  unfold lessL lessZ at h
  obtain ⟨p, hp, rfl⟩ := List.mem_map.1 h
  have h1 := (List.mem_filter.1 hp).1
  obtain ⟨a, b⟩ := p
  exact (List.of_mem_zip h1).2
/-- a document's balance is what the document says -/
theorem bal_law (d : DocV) (st : List Int) (pl : Nat) (ok : DocOk d) : balI d st pl = rbalI d st pl := by
  unfold balI rbalI
  by_cases hb : balOk d st pl
  · rw [if_pos hb, if_pos hb]
    unfold goSum
    have hl : ∀ x ∈ lessAll d st, I64 x := by
      intro x hx
      unfold lessAll at hx
      rcases List.mem_append.1 hx with h | h
      · simp only [List.mem_cons, List.not_mem_nil, or_false] at h
        rcases h with rfl | rfl | rfl
        · exact ok.back
        · exact ok.kept
        · exact ok.left
      · exact ok.vals x (mem_less h)
    have e1 : rlist d st = d.cred :: (lessAll d st).map negI := by
      unfold rlist lessAll
      simp
    rw [e1]
    have e2 : sumFrom 0 [d.paid, d.cred] = if mayI d.paid then sumFrom d.paid [d.cred] else (0, 7) := by
      rw [sumFrom]
      cases hm : mayI d.paid with
      | true =>
        have : addI 0 d.paid = (d.paid, 0) := by
          unfold addI; rw [hm, Int.zero_add, hm]; rfl
        rw [this]; rfl
      | false =>
        have : addI 0 d.paid = (0, 7) := by
          unfold addI; rw [hm]; simp
        rw [this]; rfl
    rw [e2]
    cases hm : mayI d.paid with
    | false => simp only [Bool.false_eq_true, if_false]; exact subAll_bad _ _ (by decide)
    | true =>
      simp only [if_true]
      rw [sumFrom, sumFrom, sumFrom]
      rcases addI_cases d.paid d.cred with ⟨h0, -, -, -, h1⟩ | ⟨h7, h1, -⟩
      · rw [if_pos h0, if_pos h0, ← subAll_sum _ _ hl]
      · rw [if_neg (by rw [h7]; decide), if_neg (by rw [h7]; decide)]
        exact subAll_bad _ _ (by decide)
  · rw [if_neg hb, if_neg hb]
end Go.Proofs.Ytijldpkchmpjkaa
