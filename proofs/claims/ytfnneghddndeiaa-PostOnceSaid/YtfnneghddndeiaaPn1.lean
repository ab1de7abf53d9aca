/- POST ONCE by SX 1: operations: parts of an open slice, an open slice appended, the rest of a division. -/
import Derived.Test.YtfnneghddndeiaaSxE
namespace Go.Sx
set_option linter.unusedVariables false
set_option linter.unusedSimpArgs false
set_option linter.unusedSectionVars false
open Go.RowKit Go.Tk Go.Lib Go.Shelf Go.Vc
theorem row_drop {w : World} {a : Option Addr} {xs : List Value} (h : Row w a xs) (d : Nat) : Row w (a.map (·.add d)) (xs.drop d) := by
  intro i hi
  rw [List.length_drop] at hi
  obtain ⟨b, off, ha, hc⟩ := h (d + i) (by omega)
  subst ha
  refine ⟨b, off + d, by simp only [Option.map_some, addr_add], ?_⟩
  rw [Nat.add_assoc, hc, List.getD_eq_getElem?_getD, List.getD_eq_getElem?_getD, List.getElem?_drop]
theorem row_take {w : World} {a : Option Addr} {xs : List Value} (h : Row w a xs) (d : Nat) : Row w a (xs.take d) := by
  intro i hi
  rw [List.length_take] at hi
  obtain ⟨b, off, ha, hc⟩ := h i (by omega)
  refine ⟨b, off, ha, ?_⟩
  rw [hc, List.getD_eq_getElem?_getD, List.getD_eq_getElem?_getD, List.getElem?_take_of_lt (by omega)]
theorem rd_drop {c : Chunk} {a : Option Addr} {xs : List Value} (h : Rd c a xs) (d : Nat) : Rd c (a.map (·.add d)) (xs.drop d) := fun S w hw => row_drop (h S w hw) d
theorem rd_take {c : Chunk} {a : Option Addr} {xs : List Value} (h : Rd c a xs) (d : Nat) : Rd c a (xs.take d) := fun S w hw => row_take (h S w hw) d
theorem rd_nil {c : Chunk} {a : Option Addr} : Rd c a [] := fun S w hw i hi => absurd hi (Nat.not_lt_zero _)
def isSlcHi (t : TypeId) (o : Oper) : Bool := match o.op with
  | .slice t' _ none (some _) none => Nat.beq t t'
  | _ => false
def slcHiX (o : Oper) : List Operand := match o.op with
  | .slice _ x _ (some y) _ => [x, y]
  | _ => []
def isSlcLo (t : TypeId) (o : Oper) : Bool := match o.op with
  | .slice t' _ (some _) none none => Nat.beq t t'
  | _ => false
def slcLoX (o : Oper) : List Operand := match o.op with
  | .slice _ x (some y) _ _ => [x, y]
  | _ => []
theorem slc_hi {P : Program} {t size : Nat} {a : Option Addr} {n c k : Nat} {q : IntKind} (hT : sliceT P t size = true) (hk : k ≤ c) :
    OpG P (isSlcHi t) slcHiX [.val (.slice a n c), .val (.int q (k : Int))] [] [] (.val (.slice a k c)) [] := by
  intro o ho
  unfold isSlcHi at ho
  split at ho <;> try (cases ho; done)
  rename_i t' x y hop
  have e1 := Nat.eq_of_beq_eq_true ho
  subst e1
  have hx' : slcHiX o = [x, y] := by unfold slcHiX; rw [hop]
  rw [hx']
  refine ⟨fun z hz => by rw [hop]; simp [Op.operands]; simpa using hz, fun ε ρ R w hx hM => ?_⟩
  simp only [List.map_cons, List.map_nil, SV.dens, SV.den, List.cons.injEq, and_true] at hx
  have hrun := x_sliceN (P := P) (ρ := ρ) (o := o) (w := w) (t := t) (n := size) (l := 0) (h := k) hop hx.1 hT (.inl ⟨rfl, rfl⟩) (.inr ⟨y, q, rfl, hx.2⟩) (Nat.zero_le _) hk
  refine res_ok hrun ⟨ε 1, ?_, by rw [eset_self]; exact hM⟩
  have e0 : a.map (·.add (0 * size)) = a := by
    cases a with
    | none => rfl
    | some x => simp [Addr.add]
  simp only [SV.den, e0, ite_self, Nat.sub_zero]
def loAd (a : Option Addr) (c k size : Nat) : Option Addr := if c = k then a else a.map (·.add (k * size))
theorem slc_lo {P : Program} {t size : Nat} {a : Option Addr} {n c k : Nat} {q : IntKind} (hT : sliceT P t size = true) (hk : k ≤ n) (hn : n ≤ c) :
    OpG P (isSlcLo t) slcLoX [.val (.slice a n c), .val (.int q (k : Int))] [] [] (.val (.slice (loAd a c k size) (n - k) (c - k))) [] := by
  intro o ho
  unfold isSlcLo at ho
  split at ho <;> try (cases ho; done)
  rename_i t' x y hop
  have e1 := Nat.eq_of_beq_eq_true ho
  subst e1
  have hx' : slcLoX o = [x, y] := by unfold slcLoX; rw [hop]
  rw [hx']
  refine ⟨fun z hz => by rw [hop]; simp [Op.operands]; simpa using hz, fun ε ρ R w hx hM => ?_⟩
  simp only [List.map_cons, List.map_nil, SV.dens, SV.den, List.cons.injEq, and_true] at hx
  have hrun := x_sliceN (P := P) (ρ := ρ) (o := o) (w := w) (t := t) (n := size) (l := k) (h := n) hop hx.1 hT (.inr ⟨y, q, rfl, hx.2⟩) (.inl ⟨rfl, rfl⟩) hk hn
  exact res_ok hrun ⟨ε 1, rfl, by rw [eset_self]; exact hM⟩
theorem rd_lo {c : Chunk} {a : Option Addr} {xs : List Value} {n cap k size : Nat} (h : Rd c a xs) (hl : xs.length = n * size) (hn : n ≤ cap) : Rd c (loAd a cap k size) (xs.drop (k * size)) := by
  unfold loAd
  split
  · rename_i e
    have : xs.drop (k * size) = [] := List.drop_of_length_le (by rw [hl]; exact Nat.mul_le_mul_right _ (by omega))
    rw [this]; exact rd_nil
  · exact rd_drop h _
theorem app_openM {P : Program} {t t' e e' size j m : Nat} {F : Nat → Value → Chunk} {a : Option Addr} {n cap : Nat} {ys xs : List Value} (hu : P.underlying t = some (.slice e)) (hy : P.underlying t' = some (.slice e')) (hi : infoB P e size = true)
    (hl : xs.length = n * size) (h1 : ∀ u ∈ xs, u.oneCell' = true) (hR : ∀ b v, Rd (F b v) a xs) (hn : m + n ≤ 1073741824) :
    OpG P (isApp P t t') lenX [.raw 0 100, .val (.slice a n cap)] [((0, j), .fam F)] [((0, 100), .row e size m (.shal ys) [])] (.raw 1 0) [((1, 0), .row e size (m + n) (.shal (ys ++ xs)) [])] := by
  intro o ho
  obtain ⟨c, x, y, ho, hc, ha, hat, hx⟩ := isApp_of ho
  rw [hx]
  obtain ⟨i, z, hi', hz, rfl, hzs, h0, hb⟩ := infoB_of hi
  refine ⟨fun q hq => by rw [ho]; simp [Op.operands, Call.operands, hc, ha]; simpa using hq, fun ε ρ R w hx hM => ?_⟩
  simp only [List.map_cons, List.map_nil, SV.dens, SV.den, List.cons.injEq, and_true] at hx
  obtain ⟨hx, hy'⟩ := hx
  have hM : Mem (F (ε 0 j).1 (ε 0 j).2 :: rowC e i.size (asSl (ε 0 100).2) m ys :: R) w := hM
  have hrow : Row w a xs := (hR _ _).row hM 0 rfl
  have hS : Go.Src P i.size t' (.slice a n cap) n xs w := by
    cases a with
    | some ad => exact Go.Src.ofSlice (P := P) w hy ad n cap _ hl (fun j u' hj => by
        have hjl := (List.getElem?_eq_some_iff.1 hj).1
        obtain ⟨b, off, hab, hcell⟩ := hrow j hjl
        cases hab
        have : (Addr.add ⟨b, off, none⟩ j) = ⟨b, off + j, none⟩ := addr_add b off j
        rw [this, hcell, List.getD_eq_getElem?_getD, hj]; rfl) h1
    | none =>
      have hy0 : xs = [] := by
        cases xs with
        | nil => rfl
        | cons q l => obtain ⟨b, off, h, -⟩ := hrow 0 (by simp); cases h
      have hm0 : n = 0 := by
        have h2 : n * i.size = 0 := by rw [hy0] at hl; simpa using hl.symm
        rcases Nat.mul_eq_zero.1 h2 with h | h
        · exact h
        · omega
      subst hm0
      rw [hy0]
      exact Go.Src.ofNil (P := P) w hy cap
  have h63 : m + n ≤ maxLen := by simp only [maxLen]; omega
  have hA := apps_src (P := P) t t' o.type e i.size i.bytes m n z hu (by rw [hi']; simp [hz]) hS h63 (by
    have : (m + n) * i.bytes ≤ 1073741824 * 131072 := Nat.mul_le_mul hn hb
    omega)
  obtain ⟨v', w', hr, hm⟩ := Mem.apps hM 1 rfl hA hzs h63
  have hm : Mem (F (ε 0 j).1 (ε 0 j).2 :: rowC e i.size v' (m + n) (ys ++ xs) :: R) w' := hm
  have hv' : asSl v' = v' := asSl_self (hm.owns 1 rfl)
  refine res_ok (x_append ho hc ha hat hx hy' hr) ⟨fun _ => (0, v'), by simp only [SV.den, eset_at]; exact hv'.symm, ?_⟩
  have e0 : eset ε 1 (fun _ => (0, v')) 0 j = ε 0 j := by rw [eset_ne (by decide)]
  simp only [hden, List.map_cons, List.map_nil, List.cons_append, List.nil_append, SC.den, SL.den, eset_at, hv', e0]
  exact hm
def isRem (t : TypeId) (o : Oper) : Bool := match o.op with
  | .binOp .rem t' _ _ _ => Nat.beq t t'
  | _ => false
def remX (o : Oper) : List Operand := match o.op with
  | .binOp .rem _ x y _ => [x, y]
  | _ => []
theorem rem_g {P : Program} {t : Nat} {k : IntKind} {a b : Int} (hT : P.underlying t = some (.int k)) (hb : b ≠ 0) :
    OpG P (isRem t) remX [.val (.int k a), .val (.int k b)] [] [] (.val (.int k (a.tmod b))) [] := by
  intro o ho
  unfold isRem at ho
  split at ho <;> try (cases ho; done)
  rename_i t' x y t2 hop
  have e1 := Nat.eq_of_beq_eq_true ho
  subst e1
  have hx' : remX o = [x, y] := by unfold remX; rw [hop]
  rw [hx']
  refine ⟨fun z hz => by rw [hop]; simp [Op.operands]; simpa using hz, fun ε ρ R w hx hM => ?_⟩
  simp only [List.map_cons, List.map_nil, SV.dens, SV.den, List.cons.injEq, and_true] at hx
  have hrun : (execOp ρ o).run P w = .ok (.value (.int k (a.tmod b))) w := by
    simp [execOp, hop, hx.1, hx.2, binOp, go_sem, hb]
  exact res_ok hrun ⟨ε 1, rfl, by rw [eset_self]; exact hM⟩
theorem go_rowC {P : Program} {f : Nat} {ret : SV} {rp : Heap} {eb : Env} {R : List Chunk} {e : Ex} {K : List It} {sl : Slots} {H : Heap} (n : Nm) (E size m : Nat) (xs : List Value) (hg : hget H n = SC.row E size m (.shal xs) [])
    (h : ∀ a c, m ≤ c → Go P f ret rp eb R e K (knSl n (.slice a m c) sl) (knH n (.slice a m c) H)) : Go P f ret rp eb R e K sl H := by
  intro ε a w hr
  have hm : Mem (hden ε H ++ R) w := hr.mem
  have h0 := (focus1 (n := n) hr.nd).1 hm
  rw [hg] at h0
  have hrow : RowF E size w (asSl (ε n.1 n.2).2) m xs := h0.owns 0 rfl
  have key : ∃ a c, asSl (ε n.1 n.2).2 = .slice a m c ∧ m ≤ c := by
    obtain ⟨-, ⟨h1, h2⟩ | ⟨g, cap, cur, h1, -, h3, -⟩⟩ := hrow
    · exact ⟨none, 0, by rw [h1, h2], by omega⟩
    · exact ⟨_, cap, h1, h3⟩
  obtain ⟨a', c, hv, hac⟩ := key
  refine h a' c hac ε a w ⟨hr.size, hr.defers, ?_, ?_, ?_, ?_, hr.e0, hr.pos⟩
  · intro d u hu
    obtain ⟨x, hx, rfl⟩ := lkS_kn hu
    have := hr.slots d x hx
    exact ⟨by rw [SV.kn_den hv]; exact this.1, SV.kn_ok _ this.2⟩
  · have e1 : hden ε (knH n (.slice a' m c) H) = hden ε H := by
      unfold hden knH
      rw [List.map_map]
      exact List.map_congr_left fun x _ => SC.kn_den hv x.1 x.2
    show Mem (hden ε (knH n (.slice a' m c) H) ++ R) w
    rw [e1]; exact hm
  · have e1 : names (knH n (.slice a' m c) H) = names H := by unfold names knH; rw [List.map_map]; rfl
    show (names (knH n (.slice a' m c) H)).Nodup
    rw [e1]; exact hr.nd
  · have := hr.sc
    unfold hok knH at *
    simp only [List.all_map, List.all_eq_true, Bool.and_eq_true, Function.comp] at this ⊢
    exact fun x hx => ⟨(this x hx).1, SC.kn_ok _ (this x hx).2⟩
end Go.Sx
