/- Rf10, Rf11, Rf12, Rf17, Pb1. -/
import Derived.Test.YtmhbpifhpolghaaGreatM888f53c
import Derived.Test.YtmhbpifhpolghaaGreatM23475bd
set_option maxRecDepth 100000
set_option linter.unusedVariables false
set_option linter.unusedSimpArgs false
set_option linter.unusedSectionVars false
section
namespace Go.Sx
open Go.RowKit Go.Lib Go.Tk Go.Shelf Go.Vc
section
variable {P : Program} {α : Type} {enc : α → List Value} {E size : Nat}
def isLow (t : TypeId) (o : Oper) : Bool := match o.op with
  | .slice t' _ (some _) none none => Nat.beq t t'
  | _ => false
def isHigh (t : TypeId) (o : Oper) : Bool := match o.op with
  | .slice t' _ none (some _) none => Nat.beq t t'
  | _ => false
def highX (o : Oper) : List Operand := match o.op with
  | .slice _ x _ (some y) _ => [x, y]
  | _ => []
theorem QF.isL {w : World} {v : Value} {n : Nat} {xs : List Value} (h : QF E size w v n xs) : ∃ a c, v = .slice a n c ∧ n ≤ c := by
  obtain ⟨hl, ⟨h1, h2⟩ | ⟨g, lo, cap, cur, hv, -, h3, -⟩⟩ := h
  · exact ⟨none, 0, by rw [h1, h2], by omega⟩
  · exact ⟨_, cap, hv, h3⟩
theorem q_drop {t : TypeId} {k : IntKind} {i : Nat} (l : List α) (hT : sliceT P t size = true) (hi : i ≤ l.length) :
    OpG P (isLow t) sliceX [.any 0 0, .val (.int k (i : Int))] [((0, 0), .fam (qF E size enc l))] [] (.win 0 0 size i (l.length - i)) [] := by
  intro o ho
  unfold isLow at ho
  split at ho <;> try (cases ho; done)
  rename_i t' x y hop
  have e1 := Nat.eq_of_beq_eq_true ho
  subst e1
  have hx' : sliceX o = [x, y] := by unfold sliceX; rw [hop]
  rw [hx']
  refine ⟨fun z hz => by rw [hop]; simp only [List.mem_cons, List.not_mem_nil, or_false] at hz; rcases hz with rfl | rfl <;> simp [Op.operands], fun ε ρ R w hx hM => ?_⟩
  simp only [List.map_cons, List.map_nil, SV.dens, SV.den, List.cons.injEq, and_true] at hx
  have hM : Mem (qcC E size (ε 0 0).2 l.length (cellsL enc l) :: R) w := hM
  obtain ⟨a, cap, hv, hle⟩ := (Mem.qs hM 0 rfl).isL
  have hrun := x_sliceN (P := P) (ρ := ρ) (o := o) (w := w) (t := t) (n := size) (l := i) (h := l.length) hop (hx.1.trans hv) hT (.inr ⟨_, _, rfl, hx.2⟩) (.inl ⟨rfl, rfl⟩) hi hle
  refine res_ok hrun ⟨ε 1, ?_, by rw [eset_self]; exact hM⟩
  rw [eset_self]; simp only [SV.den, hv]; rfl
theorem q_take {t : TypeId} {k : IntKind} {i : Nat} (l : List α) (hT : sliceT P t size = true) (hi : i ≤ l.length) :
    OpG P (isHigh t) highX [.any 0 0, .val (.int k (i : Int))] [((0, 0), .fam (qF E size enc l))] [] (.win 0 0 size 0 i) [] := by
  intro o ho
  unfold isHigh at ho
  split at ho <;> try (cases ho; done)
  rename_i t' x y hop
  have e1 := Nat.eq_of_beq_eq_true ho
  subst e1
  have hx' : highX o = [x, y] := by unfold highX; rw [hop]
  rw [hx']
  refine ⟨fun z hz => by rw [hop]; simp only [List.mem_cons, List.not_mem_nil, or_false] at hz; rcases hz with rfl | rfl <;> simp [Op.operands], fun ε ρ R w hx hM => ?_⟩
  simp only [List.map_cons, List.map_nil, SV.dens, SV.den, List.cons.injEq, and_true] at hx
  have hM : Mem (qcC E size (ε 0 0).2 l.length (cellsL enc l) :: R) w := hM
  obtain ⟨a, cap, hv, hle⟩ := (Mem.qs hM 0 rfl).isL
  have hrun := x_sliceN (P := P) (ρ := ρ) (o := o) (w := w) (t := t) (n := size) (l := 0) (h := i) hop (hx.1.trans hv) hT (.inl ⟨rfl, rfl⟩) (.inr ⟨_, _, rfl, hx.2⟩) (Nat.zero_le _) (by omega)
  refine res_ok hrun ⟨ε 1, ?_, by rw [eset_self]; exact hM⟩
  rw [eset_self]; simp only [SV.den, hv]; rfl
theorem QF.src {t e' : TypeId} {w : World} {v : Value} {n i : Nat} {xs : List Value} (h : QF E size w v n xs) (hi : i ≤ n) (h1 : ∀ u ∈ xs, u.oneCell' = true) (hT : P.underlying t = some (.slice e')) : Go.Src P size t (winV v size i (n - i)) (n - i) (xs.drop (i * size)) w := by
  have hlen : (xs.drop (i * size)).length = (n - i) * size := by rw [List.length_drop, h.1, Nat.sub_mul]
  obtain ⟨a, c, hv, hle⟩ := h.isL
  subst hv
  cases a with
  | none =>
    have hn : n = 0 := by
      rcases h.2 with ⟨-, h2⟩ | ⟨g, lo, cap, cur, hv, -⟩
      · exact h2
      · cases hv
    have hx : xs = [] := List.length_eq_zero_iff.1 (by rw [h.1, hn, Nat.zero_mul])
    subst hn; subst hx
    have hi0 : i = 0 := by omega
    subst hi0
    have e0 : winV (.slice none 0 c) size 0 (0 - 0) = .slice none 0 c := by simp [winV]
    rw [e0, List.drop_nil]
    exact Go.Src.ofNil (P := P) w hT c
  | some ad =>
    have e0 : ∃ ad', winV (.slice (some ad) n c) size i (n - i) = .slice (some ad') (n - i) (c - i) ∧ (i < n → ad' = ad.add (i * size)) := by
      unfold winV
      by_cases hc : c = i
      · exact ⟨ad, by simp only [if_pos hc], fun h => by omega⟩
      · exact ⟨ad.add (i * size), by simp only [if_neg hc, Option.map_some], fun _ => rfl⟩
    obtain ⟨ad', e1, e2⟩ := e0
    rw [e1]
    refine Go.Src.ofSlice (P := P) w hT ad' (n - i) (c - i) _ hlen (fun j u hj => ?_) fun u hu => h1 u (List.mem_of_mem_drop hu)
    have hjl := (List.getElem?_eq_some_iff.1 hj).1
    have hin : i < n := by
      rcases Nat.lt_or_ge i n with q | q
      · exact q
      · rw [hlen, show n - i = 0 by omega, Nat.zero_mul] at hjl; omega
    rw [List.getElem?_drop] at hj
    obtain ⟨g, off, cap, hv, hc⟩ := h.cell hj
    cases hv
    rw [e2 hin]
    have : (Addr.add (Addr.add ⟨g, off, none⟩ (i * size)) j) = ⟨g, off + (i * size + j), none⟩ := by rw [addr_add, addr_add, Nat.add_assoc]
    rw [this]; exact hc
theorem cellsL_drop (hk : ∀ x, (enc x).length = size) : ∀ (l : List α) (i : Nat), (cellsL enc l).drop (i * size) = cellsL enc (l.drop i)
  | l, 0 => by rw [Nat.zero_mul]; rfl
  | [], i + 1 => by rw [List.drop_nil]; exact List.drop_nil
  | x :: l, i + 1 => by
    have ih := cellsL_drop hk l i
    have e : cellsL enc (x :: l) = enc x ++ cellsL enc l := rfl
    rw [e, show (i + 1) * size = (enc x).length + i * size by rw [hk, Nat.add_mul]; omega, List.drop_length_add_append, ih]; rfl
theorem cellsL_take (hk : ∀ x, (enc x).length = size) : ∀ (l : List α) (i : Nat), (cellsL enc l).take (i * size) = cellsL enc (l.take i)
  | l, 0 => by rw [Nat.zero_mul]; rfl
  | [], i + 1 => by rw [List.take_nil]; exact List.take_nil
  | x :: l, i + 1 => by
    have ih := cellsL_take hk l i
    have e : cellsL enc (x :: l) = enc x ++ cellsL enc l := rfl
    rw [e, show (i + 1) * size = (enc x).length + i * size by rw [hk, Nat.add_mul]; omega, List.take_length_add_append, ih]; rfl
theorem cellsL_one {l : List α} (h1 : ∀ x, ∀ u ∈ enc x, u.oneCell' = true) : ∀ u ∈ cellsL enc l, u.oneCell' = true := fun u hu => by
  unfold cellsL at hu
  obtain ⟨r, hr, hu⟩ := List.mem_flatten.1 hu
  obtain ⟨x, -, rfl⟩ := List.mem_map.1 hr
  exact h1 x u hu
theorem cellsL_app (l m : List α) : cellsL enc (l ++ m) = cellsL enc l ++ cellsL enc m := by unfold cellsL; simp
theorem q_copy {t : TypeId} {i : Nat} (l : List α) (hk : ∀ x, (enc x).length = size) (h1 : ∀ x, ∀ u ∈ enc x, u.oneCell' = true) (hT : P.underlying t = some (.slice E)) (hinf : infoB P E size = true) (hi : i ≤ l.length) (hn : l.length ≤ 1073741824) :
    OpG P (isApp P t t) lenX [.val (.slice none 0 0), .win 0 0 size i (l.length - i)] [((0, 0), .fam (qF E size enc l))] [] (.any 1 0) [((1, 0), .fam (qF E size enc (l.drop i)))] := by
  intro o ho
  obtain ⟨c, y, z, ho, hc, ha, hat, hx⟩ := isApp_of ho
  rw [hx]
  obtain ⟨ie, zv, hi', hz, hsz, hzs, h0, hb⟩ := infoB_of hinf
  refine ⟨fun q hq => by rw [ho]; simp [Op.operands, Call.operands, hc, ha]; simpa using hq, fun ε ρ R w hx hM => ?_⟩
  simp only [List.map_cons, List.map_nil, SV.dens, SV.den, List.cons.injEq, and_true] at hx
  obtain ⟨hx, hy⟩ := hx
  have hM : Mem (qcC E size (ε 0 0).2 l.length (cellsL enc l) :: R) w := hM
  have hS := (Mem.qs hM 0 rfl).src (P := P) hi (cellsL_one h1) hT
  have h63 : 0 + (l.length - i) ≤ maxLen := by simp only [maxLen]; omega
  have hA := apps_src (P := P) t t o.type E size ie.bytes 0 (l.length - i) zv hT (by rw [hi']; simp [hz, hsz]) hS h63 (by
    have : (l.length - i) * ie.bytes ≤ 1073741824 * 131072 := Nat.mul_le_mul (by omega) hb
    rw [Nat.zero_add]; omega)
  obtain ⟨v', w', hr, hm⟩ := Mem.apps (Mem.noRow hM E size) 0 rfl hA hzs h63
  have hm : Mem (rowC E size v' (0 + (l.length - i)) ([] ++ (cellsL enc l).drop (i * size)) :: qcC E size (ε 0 0).2 l.length (cellsL enc l) :: R) w' := hm
  rw [Nat.zero_add, List.nil_append, cellsL_drop hk, ← List.length_drop] at hm
  have hm2 := hm.weaken fun S hS => row_q hS
  refine res_ok (x_append ho hc ha hat hx hy hr) ⟨fun _ => (0, v'), by simp only [SV.den, eset_at], ?_⟩
  show Mem (qcC E size (eset ε 1 (fun _ => (0, v')) 0 0).2 l.length (cellsL enc l) :: qcC E size (eset ε 1 (fun _ => (0, v')) 1 0).2 (l.drop i).length (cellsL enc (l.drop i)) :: R) w'
  rw [eset_at, eset_ne (show (0 : Nat) ≠ 1 by decide)]
  exact mem_perm (List.Perm.swap _ _ _) hm2
theorem QF.head {w : World} {v : Value} {n i : Nat} {xs : List Value} (h : QF E size w v n xs) (hi : i ≤ n) : QF E size w (winV v size 0 i) i (xs.take (i * size)) := by
  have hlen : (xs.take (i * size)).length = i * size := by rw [List.length_take, h.1]; exact Nat.min_eq_left (Nat.mul_le_mul_right _ hi)
  refine ⟨hlen, ?_⟩
  rcases h.2 with ⟨h1, h2⟩ | ⟨g, lo, cap, cur, hv, hb, h1, h2, h3, h4⟩
  · left
    have : i = 0 := by omega
    subst this
    rw [h1]; exact ⟨by unfold winV; simp, rfl⟩
  · right
    refine ⟨g, lo, cap, cur, ?_, hb, by omega, h2, h3, ?_⟩
    · rw [hv]; unfold winV
      have : (Addr.add ⟨g, lo * size, none⟩ (0 * size)) = (⟨g, lo * size, none⟩ : Addr) := by rw [addr_add]; simp
      by_cases hc : cap = 0
      · simp [hc]
      · simp only [if_neg hc, Option.map_some, this]; rfl
    · rw [← h4, List.take_take, Nat.min_eq_left (Nat.mul_le_mul_right _ hi)]
theorem ownBlock_win {v : Value} {size i n : Nat} {g : Nat} (h : (winV v size 0 i).ownBlock = some g) (hv : ∃ a c, v = .slice a n c) : v.ownBlock = some g := by
  obtain ⟨a, c, rfl⟩ := hv
  unfold winV at h
  simp only at h
  split at h
  · cases a <;> exact h
  · cases a with
    | none => cases h
    | some ad => 
      simp only [Option.map_some, Nat.zero_mul] at h
      have : ad.add 0 = ad := by simp [Addr.add]
      rw [this] at h; exact h
theorem q_cut {t : TypeId} {i : Nat} (l : List α) (x : α) (cs : List SV) (hcs : ∀ ε, SV.dens ε cs = enc x) (h1 : ∀ u ∈ enc x, u.oneCell' = true) (hk : ∀ x, (enc x).length = size) (hT : P.underlying t = some (.slice E)) (hinf : infoB P E size = true) (hi : i ≤ l.length) (hn : i + 1 ≤ 1073741824) :
    OpG P (isApp P t t) lenX [.win 0 0 size 0 i, .raw 0 1] [((0, 1), .row E size 1 (.deep cs) [])] [((0, 0), .fam (qF E size enc l))] (.any 1 0) [((1, 0), .fam (qF E size enc (l.take i ++ [x])))] := by
  intro o ho
  obtain ⟨c, y, z, ho, hc, ha, hat, hx⟩ := isApp_of ho
  rw [hx]
  obtain ⟨ie, zv, hi', hz, hsz, hzs, h0, hb⟩ := infoB_of hinf
  refine ⟨fun q hq => by rw [ho]; simp [Op.operands, Call.operands, hc, ha]; simpa using hq, fun ε ρ R w hx hM => ?_⟩
  simp only [List.map_cons, List.map_nil, SV.dens, SV.den, List.cons.injEq, and_true] at hx
  obtain ⟨hx, hy⟩ := hx
  have hM0 : Mem (rowC E size (asSl (ε 0 1).2) 1 (SV.dens ε cs) :: qcC E size (ε 0 0).2 l.length (cellsL enc l) :: R) w := hM
  rw [hcs] at hM0
  have hM1 := (mem_perm (List.Perm.swap _ _ _) hM0).weaken (c' := qcC E size (winV (ε 0 0).2 size 0 i) i ((cellsL enc l).take (i * size))) fun S hS => ⟨fun g hg => hS.1 g (ownBlock_win hg hS.2.is), hS.2.head hi⟩
  have hM := mem_perm (List.Perm.swap _ _ _) hM1
  rw [cellsL_take hk] at hM
  have hli : (l.take i).length = i := by rw [List.length_take]; omega
  obtain ⟨c', hv⟩ := row_elem (hM.owns 0 rfl) 0 (by omega) h0
  have hrow := hM.owns 0 rfl
  have hS : Go.Src P size t (asSl (ε 0 1).2) 1 (enc x) w := by
    rw [hv]
    exact Go.Src.ofSlice (P := P) w hT _ 1 c' _ (by rw [hk, Nat.one_mul]) (fun j u' hj => by
      have := row_at hrow hj
      rw [adOf_asSl] at this
      rw [addr_add]; exact this) h1
  obtain ⟨v', w', hr, hm⟩ := Mem.appQ hM 1 rfl (ty := o.type) (bytes := ie.bytes) hT (by rw [hi']; simp [hz, hsz]) hS (by omega) hzs (by simp only [maxLen]; omega) (by
    have : (i + 1) * ie.bytes ≤ 1073741824 * 131072 := Nat.mul_le_mul hn hb
    omega)
  refine res_ok (x_append ho hc ha hat hx hy hr) ⟨fun _ => (0, v'), by simp only [SV.den, eset_at], ?_⟩
  have hm : Mem (rowC E size (asSl (ε 0 1).2) 1 (enc x) :: qcC E size v' (i + 1) (cellsL enc (l.take i) ++ enc x) :: R) w' := hm
  have e1 : cellsL enc (l.take i ++ [x]) = cellsL enc (l.take i) ++ enc x := by rw [cellsL_app]; unfold cellsL; simp
  show Mem (rowC E size (asSl (eset ε 1 (fun _ => (0, v')) 0 1).2) 1 (SV.dens (eset ε 1 fun _ => (0, v')) cs) :: qcC E size (eset ε 1 (fun _ => (0, v')) 1 0).2 (l.take i ++ [x]).length (cellsL enc (l.take i ++ [x])) :: R) w'
  rw [eset_at, eset_ne (show (0 : Nat) ≠ 1 by decide), hcs, e1, List.length_append, hli]
  exact hm
theorem q_cat {t : TypeId} (l m : List α) (hk : ∀ x, (enc x).length = size) (h1 : ∀ x, ∀ u ∈ enc x, u.oneCell' = true) (hT : P.underlying t = some (.slice E)) (hinf : infoB P E size = true) (hn : l.length + m.length ≤ 1073741824) :
    OpG P (isApp P t t) lenX [.any 0 0, .any 0 1] [((0, 1), .fam (qF E size enc m))] [((0, 0), .fam (qF E size enc l))] (.any 1 0) [((1, 0), .fam (qF E size enc (l ++ m)))] := by
  intro o ho
  obtain ⟨c, y, z, ho, hc, ha, hat, hx⟩ := isApp_of ho
  rw [hx]
  obtain ⟨ie, zv, hi', hz, hsz, hzs, h0, hb⟩ := infoB_of hinf
  refine ⟨fun q hq => by rw [ho]; simp [Op.operands, Call.operands, hc, ha]; simpa using hq, fun ε ρ R w hx hM => ?_⟩
  simp only [List.map_cons, List.map_nil, SV.dens, SV.den, List.cons.injEq, and_true] at hx
  obtain ⟨hx, hy⟩ := hx
  have hM : Mem (qcC E size (ε 0 1).2 m.length (cellsL enc m) :: qcC E size (ε 0 0).2 l.length (cellsL enc l) :: R) w := hM
  have hq := Mem.qs hM 0 rfl
  have hS := hq.src (P := P) (i := 0) (Nat.zero_le _) (cellsL_one h1) hT
  have e0 : winV (ε 0 1).2 size 0 (m.length - 0) = (ε 0 1).2 := by
    obtain ⟨a, cp, hv, -⟩ := hq.isL
    rw [hv]; unfold winV
    cases a with
    | none => simp
    | some ad =>
      have : ad.add 0 = ad := by simp [Addr.add]
      simp [this]
  rw [e0, Nat.zero_mul, List.drop_zero, Nat.sub_zero] at hS
  rcases Nat.eq_zero_or_pos m.length with h0m | h0m
  · have hm0 : m = [] := List.length_eq_zero_iff.1 h0m
    subst hm0
    obtain ⟨a, cp, hv, hle⟩ := (Mem.qs hM 1 rfl).isL
    subst hsz
    have hr := run_append_nothing (P := P) w t t o.type E ie hT hi' a l.length cp hle (ε 0 1).2 hS
    rw [← hv] at hr
    refine res_ok (x_append ho hc ha hat hx hy hr) ⟨fun _ => (0, (ε 0 0).2), by simp only [SV.den, eset_at], ?_⟩
    show Mem (qcC E ie.size (eset ε 1 (fun _ => (0, (ε 0 0).2)) 0 1).2 0 [] :: qcC E ie.size (eset ε 1 (fun _ => (0, (ε 0 0).2)) 1 0).2 (l ++ []).length (cellsL enc (l ++ [])) :: R) w
    rw [eset_at, eset_ne (show (0 : Nat) ≠ 1 by decide), List.append_nil]
    exact hM
  · obtain ⟨v', w', hr, hm⟩ := Mem.appQ hM 1 rfl (ty := o.type) (bytes := ie.bytes) hT (by rw [hi']; simp [hz, hsz]) hS h0m hzs (by simp only [maxLen]; omega) (by
      have : (l.length + m.length) * ie.bytes ≤ 1073741824 * 131072 := Nat.mul_le_mul hn hb
      omega)
    refine res_ok (x_append ho hc ha hat hx hy hr) ⟨fun _ => (0, v'), by simp only [SV.den, eset_at], ?_⟩
    have hm : Mem (qcC E size (ε 0 1).2 m.length (cellsL enc m) :: qcC E size v' (l.length + m.length) (cellsL enc l ++ cellsL enc m) :: R) w' := hm
    show Mem (qcC E size (eset ε 1 (fun _ => (0, v')) 0 1).2 m.length (cellsL enc m) :: qcC E size (eset ε 1 (fun _ => (0, v')) 1 0).2 (l ++ m).length (cellsL enc (l ++ m)) :: R) w'
    rw [eset_at, eset_ne (show (0 : Nat) ≠ 1 by decide), cellsL_app, List.length_append]
    exact hm
theorem q_put {t : TypeId} {off : Nat} {cs cs' : List SV} (l : List α) (ht : (P.info? t).map (·.size) = some 1) (hoff : off + 1 ≤ cs.length) (hcs : overS cs off [.any 0 9] = cs') (hok : SV.oks (ltB 1) cs' = true) :
    OpG P (isSto t) stoXY [.ptr 0 0 off, .any 0 9] [((0, 9), .fam (qF E size enc l))] [((0, 0), .box none cs)] (.val undef) [((0, 0), .box none cs')] := by
  intro o ho
  unfold isSto at ho
  split at ho <;> try (cases ho; done)
  rename_i t' x y hop
  have e1 := Nat.eq_of_beq_eq_true ho
  subst e1
  have hx' : stoXY o = [x, y] := by unfold stoXY; rw [hop]
  rw [hx']
  refine ⟨fun z hz => by rw [hop]; simp [Op.operands]; simpa using hz, fun ε ρ R w hx hM => ?_⟩
  simp only [List.map_cons, List.map_nil, SV.dens, SV.den, List.cons.injEq, and_true] at hx
  have hM : Mem (qcC E size (ε 0 9).2 l.length (cellsL enc l) :: boxE none (ε 0 0).1 (SV.dens ε cs).toArray :: R) w := hM
  obtain ⟨a, c, hv⟩ := (Mem.qs hM 0 rfl).is
  obtain ⟨w', hr, hm⟩ := Mem.store (P := P) hM 1 rfl t off (ε 0 9).2 [(ε 0 9).2] (by rw [hv]; rfl) ht (by simp [dens_length]; omega) (by rw [hv]; rfl)
  refine res_st (x_store hop hx.1 hx.2 hr) ⟨fun _ => (0, undef), by simp only [SV.den], ?_⟩
  have key : ∀ s k, ltB 1 s k = true → ε s k = eset ε 1 (fun _ => (0, undef)) s k := fun s k hs => by
    rw [eset_ne (by have := ltB_iff.1 hs; omega)]
  have e3 : SV.dens (eset ε 1 fun _ => (0, undef)) cs' = SV.dens ε cs' := (SV.dens_congr key cs' hok).symm
  show Mem (qcC E size (eset ε 1 (fun _ => (0, undef)) 0 9).2 l.length (cellsL enc l) :: boxE none (eset ε 1 (fun _ => (0, undef)) 0 0).1 (SV.dens (eset ε 1 fun _ => (0, undef)) cs').toArray :: R) w'
  rw [e3, eset_ne (show (0 : Nat) ≠ 1 by decide), ← hcs, ← overS_den]
  simp only [SV.dens, SV.den]
  exact hm
end
end Go.Sx
end
section
namespace Go.Proofs.YtmhbpifhpolghaaGreat
open Go.RowKit Go.Lib Go.Tk Go.Shelf Go.Vc Go.Sx
theorem rIx_cases {α : Type} (l : List (Kid × α)) (k : Kid) : (rIx l k = -1 ∧ ∀ p ∈ l, p.1 ≠ k) ∨ ∃ (i : Nat) (z : α), rIx l k = (i : Int) ∧ l[i]? = some (k, z) ∧ ∀ (j : Nat) (p : Kid × α), j < i → l[j]? = some p → p.1 ≠ k := by
  unfold rIx
  cases h : l.findIdx? (fun p => rkEq p.1 k) with
  | none =>
    left
    rw [List.findIdx?_eq_none_iff] at h
    exact ⟨rfl, fun p hp e => by have := h p hp; rw [(rkEq_iff _ _).2 e] at this; cases this⟩
  | some i =>
    right
    rw [List.findIdx?_eq_some_iff_getElem] at h
    obtain ⟨hi, h1, h2⟩ := h
    have e1 := (rkEq_iff _ _).1 h1
    refine ⟨i, l[i].2, rfl, by rw [List.getElem?_eq_getElem hi]; exact congrArg some (Prod.ext e1 rfl), fun j p hj hp e => ?_⟩
    have hjl : j < l.length := by omega
    rw [List.getElem?_eq_getElem hjl] at hp
    cases hp
    exact h2 j hj ((rkEq_iff _ _).2 e)
theorem rheld_store (l : List (Kid × HeldV)) {i : Nat} {k : Kid} {o o' : HeldV} (h : l[i]? = some (k, o)) : (over (cellsL otherC l).toArray (i * 13 + 3) (heldL o')).toList = cellsL otherC (l.set i (k, o')) :=
  over_cells (enc := otherC) (size := 13) (x := (k, o')) (y := (k, o)) (j := 3) (us := heldL o') (fun _ => rfl) (by show (3 + 10 : Nat) ≤ 13; omega) (by rw [over_list]; rfl) l h
def insIx (l : List (Kid × HeldV)) (k : Kid) : Nat := l.findIdx (fun p => !aheadB p.1 k)
theorem insIx_le (l : List (Kid × HeldV)) (k : Kid) : insIx l k ≤ l.length := List.findIdx_le_length
theorem insIx_at {l : List (Kid × HeldV)} {k : Kid} {i : Nat} (hi : i ≤ l.length) (h1 : ∀ j, j < i → aheadB (l.getD j other0).1 k = true) (h2 : i < l.length → aheadB (l.getD i other0).1 k = false) : insIx l k = i := by
  have e1 : ∀ (j : Nat) (h : j < l.length), l[j] = l.getD j other0 := fun j h => by rw [List.getD_eq_getElem?_getD, List.getElem?_eq_getElem h]; rfl
  rcases Nat.lt_or_ge i l.length with h | h
  · unfold insIx
    rw [List.findIdx_eq h]
    refine ⟨by rw [e1 i h, h2 h]; rfl, fun j hj => by rw [e1 j (by omega), h1 j hj]; rfl⟩
  · have : i = l.length := by omega
    subst this
    unfold insIx
    rw [List.findIdx_eq_length]
    intro x hx
    obtain ⟨j, hj, rfl⟩ := List.mem_iff_getElem.1 hx
    rw [e1 j hj, h1 j hj]; rfl
def insH (l : List (Kid × HeldV)) (k : Kid) (h : HeldV) : List (Kid × HeldV) := (l.take (insIx l k) ++ [(k, h)]) ++ l.drop (insIx l k)
def RefV.badK (B : RefV) (k : Kid) : Bool := decide (k.t.c = B.self) || (!ticketB k.t.c k.t.r B.n || decide (4 ≤ k.i))
def RefV.setHE (B : RefV) (k : Kid) : Int := bif B.badK k then 1 else bif decide (0 ≤ rIx B.helds k) then 0 else bif decide ((64 : Int) ≤ (B.helds.length : Int)) then 3 else 0
def RefV.setH (B : RefV) (k : Kid) (h : HeldV) : RefV := bif B.badK k then B else bif decide (0 ≤ rIx B.helds k) then { B with helds := B.helds.set (rIx B.helds k).toNat (k, h) } else bif decide ((64 : Int) ≤ (B.helds.length : Int)) then B else { B with helds := insH B.helds k h }
def RSetHeldF : Nat := 19
theorem kidOtherL (x : Kid × HeldV) : (otherC x).length = 13 := rfl
theorem other_one (x : Kid × HeldV) : ∀ u ∈ otherC x, u.oneCell' = true := fun u hu => by
  have : (otherC x).all (·.oneCell') = true := rfl
  exact List.all_eq_true.1 this u hu
theorem rset_end (D : CF) {eb : Env} {R : List Chunk} (B : RefV) (k : Kid) (h : HeldV) {i : Nat} (hi : i ≤ B.helds.length) (hn : B.helds.length < 64) (e : insIx B.helds k = i) :
    Go Tryz.prog RSetHeldF (eN 0) ([] ++ rfN D { B with helds := insH B.helds k h } (0, 1) (0, 2) (1, 0)) eb R .nrm (rgK Tryz.prog RSetHeldF 12 []) [(0, .ptr 0 0 0), (4, .ptr 1 0 0), (5, .ptr 1 1 0), (7, .val (.int .i64 (i : Int)))] (rfS D B 0 ++ [((1, 0), .box none (kidS k)), ((1, 1), .box none (heldS h))]) := by
  have q1 := q_drop (P := Tryz.prog) (t := 65) (k := .i64) (i := i) (E := 124) (size := 13) (enc := otherC) B.helds (by kernel_rfl) hi
  have q2 := q_copy (P := Tryz.prog) (t := 65) (i := i) (E := 124) (size := 13) (enc := otherC) B.helds kidOtherL other_one Tryz.underlying65 (by kernel_rfl) hi (by omega)
  have q3 := q_take (P := Tryz.prog) (t := 65) (k := .i64) (i := i) (E := 124) (size := 13) (enc := otherC) B.helds (by kernel_rfl) hi
  have q4 := q_cut (P := Tryz.prog) (t := 65) (i := i) (E := 124) (size := 13) (enc := otherC) B.helds (k, h) (otherS (k, h)) (fun _ => rfl) (other_one _) kidOtherL Tryz.underlying65 (by kernel_rfl) hi (by omega)
  have q5 := q_cat (P := Tryz.prog) (t := 65) (E := 124) (size := 13) (enc := otherC) (B.helds.take i ++ [(k, h)]) (B.helds.drop i) kidOtherL other_one Tryz.underlying65 (by kernel_rfl) (by rw [List.length_append, List.length_take, List.length_drop, List.length_singleton]; omega)
  have q6 := q_put (P := Tryz.prog) (t := 65) (off := 4) (cs := [.val (.int .u8 B.self), .val (.int .i64 B.n), .any 0 1, .any 0 2, .any 0 3]) (cs' := [.val (.int .u8 B.self), .val (.int .i64 B.n), .any 0 1, .any 0 2, .any 0 9]) (E := 124) (size := 13) (enc := otherC) ((B.helds.take i ++ [(k, h)]) ++ B.helds.drop i) (by kernel_rfl) (by show (4 + 1 : Nat) ≤ 5; omega) rfl rfl
  unfold insH
  rw [e]
  clear hi hn e
  exact leaf_end calNone false 400 [hG 12 5 q1, hG 12 6 q2, hG 13 6 q3, hG 13 11 q4, hG 13 13 q5, hG 13 16 q6] calNone_ok (by kernel_rfl)
theorem rset_ins (D : CF) {eb : Env} {R : List Chunk} (B : RefV) (k : Kid) (h : HeldV) (hn : B.helds.length < 64) :
    Go Tryz.prog RSetHeldF (eN 0) ([] ++ rfN D { B with helds := insH B.helds k h } (0, 1) (0, 2) (1, 0)) eb R .nrm (rgK Tryz.prog RSetHeldF 9 []) [(0, .ptr 0 0 0), (4, .ptr 1 0 0), (5, .ptr 1 1 0)] (rfS D B 0 ++ [((1, 0), .box none (kidS k)), ((1, 1), .box none (heldS h))]) := by
  have ql := q_len (P := Tryz.prog) (E := 124) (size := 13) (enc := otherC) B.helds
  refine go_loop (X := { i : Nat // i ≤ B.helds.length ∧ ∀ j, j < i → aheadB (B.helds.getD j other0).1 k = true }) 0 [] (fun y => ([(0, .ptr 0 0 0), (4, .ptr 1 0 0), (5, .ptr 1 1 0), (7, .val (.int .i64 (y.1 : Int)))], rfS D B 0 ++ [((1, 0), .box none (kidS k)), ((1, 1), .box none (heldS h))])) (fun y => B.helds.length - y.1) ⟨0, Nat.zero_le _, fun j hj => by omega⟩ calNone false 400 [] calNone_ok (by kernel_rfl) ?_
  rintro ⟨i, hi, hp⟩ J hJ
  have fin := fun e => rset_end D (eb := eb) (R := R) B k h (i := i) hi hn e
  by_cases hl : i < B.helds.length
  · have z0 : decide ((i : Int) < (B.helds.length : Int)) = true := decide_eq_true (by omega)
    have q1 := q_idx (P := Tryz.prog) (t := 65) (i := i) (k := .i64) (E := 124) (size := 13) (enc := otherC) B.helds (fun _ => rfl) (by decide) (by kernel_rfl) hl
    have q2 := q_load (P := Tryz.prog) (t := 44) (b := i * 13) (j := 0) (cs := otherS (B.helds.getD i other0)) (u := .agg (kidS (B.helds.getD i other0).1)) (E := 124) (size := 13) (enc := otherC) B.helds (by kernel_rfl) (otherS_nth hl)
    have z9 : IntKind.i64.wrap ((i : Int) + 1) = ((i + 1 : Nat) : Int) := by rw [wr_i64 (by omega)]; omega
    have c1 := ahead_w (B.helds.getD i other0).1 k
    have fin := fun (hg : aheadB (B.helds.getD i other0).1 k = false) => fin (insIx_at hi hp fun _ => hg)
    have hJ' : aheadB (B.helds.getD i other0).1 k = true → ∀ ε a' w, Rel (ntOf Tryz.prog RSetHeldF) 1 eb R ⟨[(0, .ptr 0 0 0), (4, .ptr 1 0 0), (5, .ptr 1 1 0), (7, .val (.int .i64 ((i + 1 : Nat) : Int)))], rfS D B 0 ++ [((1, 0), .box none (kidS k)), ((1, 1), .box none (heldS h))], 2⟩ ε a' w → J a' w := fun hg => hJ ⟨i + 1, hl, fun j hj => by
      rcases Nat.lt_or_ge j i with hj' | hj'
      · exact hp j hj'
      · have : j = i := by omega
        subst this; exact hg⟩ (by show _ - (i + 1) < _ - i; omega)
    show Go Tryz.prog RSetHeldF _ ([] ++ rfN D { B with helds := insH B.helds k h } (0, 1) (0, 2) (1, 0)) eb R .nrm (.code (lpB Tryz.prog RSetHeldF 0 []) :: .lp J :: lpK Tryz.prog RSetHeldF 0 []) [(0, .ptr 0 0 0), (4, .ptr 1 0 0), (5, .ptr 1 1 0), (7, .val (.int .i64 (i : Int)))] (rfS D B 0 ++ [((1, 0), .box none (kidS k)), ((1, 1), .box none (heldS h))])
    clear hJ hp
    generalize insH B.helds k h = nw at *
    generalize B.helds.getD i other0 = x at *
    rcases Bool.eq_false_or_eq_true (aheadB x.1 k) with e | e
    · have hJ' := hJ' e
      rw [e] at c1
      clear fin
      exact leaf_round (lpK Tryz.prog RSetHeldF 0 []) false 400 [hG 10 5 ql, hB 10 6 _ _ z0, hG 10 13 q1, hG 10 15 q2, hC 10 17 c1, hI 11 1 IntKind.i64 _ _ z9] hJ' (by kernel_rfl)
    · have fin := fin e
      rw [e] at c1
      clear hJ'
      exact leaf_cut (rgK Tryz.prog RSetHeldF 12 []) _ _ calNone false 400 [hG 10 5 ql, hB 10 6 _ _ z0, hG 10 13 q1, hG 10 15 q2, hC 10 17 c1, .stop 12] calNone_ok (by kernel_rfl) fin
  · have z0 : decide ((i : Int) < (B.helds.length : Int)) = false := decide_eq_false (by omega)
    have fin := fin (insIx_at hi hp fun h => absurd h hl)
    show Go Tryz.prog RSetHeldF _ ([] ++ rfN D { B with helds := insH B.helds k h } (0, 1) (0, 2) (1, 0)) eb R .nrm (.code (lpB Tryz.prog RSetHeldF 0 []) :: .lp J :: lpK Tryz.prog RSetHeldF 0 []) [(0, .ptr 0 0 0), (4, .ptr 1 0 0), (5, .ptr 1 1 0), (7, .val (.int .i64 (i : Int)))] (rfS D B 0 ++ [((1, 0), .box none (kidS k)), ((1, 1), .box none (heldS h))])
    clear hJ hp
    exact leaf_cut (rgK Tryz.prog RSetHeldF 12 []) _ _ calNone false 400 [hG 10 5 ql, hB 10 6 _ _ z0, .stop 12] calNone_ok (by kernel_rfl) fin
theorem rsetHeld_w (D : CF) (B : RefV) {k : Kid} (hk : KidOk k) (h : HeldV) (hn : B.helds.length ≤ 64) :
    CallOK Tryz.prog RSetHeldF [.ptr 0 0 0, .agg (kidS k), .agg (heldS h)] [] (rfC D B) (eN (B.setHE k)) (rfC D (B.setH k h)) := by
  have c1 := rticket_w (c := k.t.c) (r := k.t.r) (n := B.n) hk.1.1
  have c2 := rheld_w D B k (by omega)
  unfold RefV.setHE RefV.setH RefV.badK
  rcases Bool.eq_false_or_eq_true (decide (k.t.c = B.self)) with g1 | g1
  · rw [g1]
    exact rshutN (n1 := (0, 1)) (n2 := (0, 2)) (n3 := (0, 3)) (rd := []) (post := []) (callOK_run 400 [hB 1 7 _ _ g1] (by kernel_rfl) (by kernel_rfl)) rfl rfl rfl rfl
  rcases Bool.eq_false_or_eq_true (ticketB k.t.c k.t.r B.n) with g2 | g2 <;> rw [g2] at c1
  case inr =>
    rw [g1, g2]
    exact rshutN (n1 := (0, 1)) (n2 := (0, 2)) (n3 := (0, 3)) (rd := []) (post := []) (callOK_run 400 [hB 1 7 _ _ g1, hC 1 15 c1] (by kernel_rfl) (by kernel_rfl)) rfl rfl rfl rfl
  rcases Bool.eq_false_or_eq_true (decide (4 ≤ k.i)) with g3 | g3
  · rw [g1, g2, g3]
    exact rshutN (n1 := (0, 1)) (n2 := (0, 2)) (n3 := (0, 3)) (rd := []) (post := []) (callOK_run 400 [hB 1 7 _ _ g1, hC 1 15 c1, hB 1 21 _ _ g3] (by kernel_rfl) (by kernel_rfl)) rfl rfl rfl rfl
  rw [g1, g2, g3]
  simp only [Bool.not_true, Bool.or_false, cond_false]
  rcases rIx_cases B.helds k with ⟨e, -⟩ | ⟨i, z, e, hz, -⟩ <;> rw [e] at c2 ⊢
  · rw [show decide ((0 : Int) ≤ -1) = false by decide]
    simp only [cond_false]
    rcases Bool.eq_false_or_eq_true (decide ((64 : Int) ≤ (B.helds.length : Int))) with g4 | g4
    · have ql := q_len (P := Tryz.prog) (E := 124) (size := 13) (enc := otherC) B.helds
      rw [g4]
      simp only [cond_true]
      exact rshutN (n1 := (0, 1)) (n2 := (0, 2)) (n3 := (0, 3)) (rd := []) (post := []) (callOK_run 400 [hB 1 7 _ _ g1, hC 1 15 c1, hB 1 21 _ _ g3, hC 3 2 c2, hG 7 4 ql, hB 7 5 _ _ g4] (by kernel_rfl) (by kernel_rfl)) rfl rfl rfl rfl
    · have ql := q_len (P := Tryz.prog) (E := 124) (size := 13) (enc := otherC) B.helds
      rw [g4]
      simp only [cond_false]
      refine rshutN (n1 := (0, 1)) (n2 := (0, 2)) (n3 := (1, 0)) (rd := []) (post := []) (callOK_intro (by kernel_rfl) fun eb R => ?_) rfl rfl rfl rfl
      have fin := rset_ins D (eb := eb) (R := R) B k h (by have := of_decide_eq_false g4; omega)
      generalize insH B.helds k h = nw at *
      exact leaf_cut (rgK Tryz.prog RSetHeldF 9 []) _ _ calNone false 400 [hB 1 7 _ _ g1, hC 1 15 c1, hB 1 21 _ _ g3, hC 3 2 c2, hG 7 4 ql, hB 7 5 _ _ g4, .stop 9] calNone_ok (by kernel_rfl) fin
  · have hil := (List.getElem?_eq_some_iff.1 hz).1
    have z0 : decide ((0 : Int) ≤ (i : Int)) = true := decide_eq_true (by omega)
    rw [z0, Int.toNat_natCast]
    simp only [cond_true]
    have q1 := q_idx (P := Tryz.prog) (t := 65) (i := i) (k := .i64) (E := 124) (size := 13) (enc := otherC) B.helds (fun _ => rfl) (by decide) (by kernel_rfl) hil
    have q2 := q_store (P := Tryz.prog) (t := 55) (b := i * 13) (j := 3) (cs := heldS h) (us := heldL h) (E := 124) (size := 13) (enc := otherC) B.helds (B.helds.set i (k, h)) (by kernel_rfl) (fun _ => rfl) rfl (by rw [cellsL_len kidOtherL]; omega) (by rw [cellsL_len kidOtherL]; show i * 13 + 3 + 10 ≤ _; omega) (List.length_set ..) (rheld_store _ hz)
    exact rshutN (n1 := (0, 1)) (n2 := (0, 2)) (n3 := (0, 3)) (rd := []) (post := []) (callOK_run 400 [hB 1 7 _ _ g1, hC 1 15 c1, hB 1 21 _ _ g3, hC 3 2 c2, hG 5 6 q1, hG 5 8 q2] (by kernel_rfl) (by kernel_rfl)) rfl rfl rfl rfl
end Go.Proofs.YtmhbpifhpolghaaGreat
end
section
namespace Go.Sx
open Go.RowKit Go.Lib Go.Tk Go.Shelf Go.Vc
theorem lkS_knS {s k : Nat} {v : Value} {d : Nat} {u : SV} : ∀ {sl : Slots}, lkS sl d = some u → lkS (knSl (s, k) v sl) d = some (u.kn s k v)
  | [], h => by cases h
  | (d', x) :: sl, h => by
    unfold lkS at h
    unfold knSl
    rw [List.map_cons]
    unfold lkS
    cases hb : Nat.beq d' d with
    | true => rw [hb] at h; cases h; rfl
    | false => rw [hb] at h; exact lkS_knS h
end Go.Sx
namespace Go.Proofs.YtmhbpifhpolghaaGreat
open Go.RowKit Go.Lib Go.Tk Go.Shelf Go.Vc Go.Sx
def valsRow (p : DocV × DocA) : Chunk := rowC 2 1 (.slice p.2.va p.1.vals.length p.2.vc) p.1.vals.length (p.1.vals.map (.int .i64))
def nrm (p : DocV × DocA) : DocV × SaleA := (p.1, ⟨p.2.la, p.2.lc, p.2.ta, p.2.tc⟩)
def rdQ (L : List (DocV × DocA)) : CF := qF 42 17 docL L
def refNew (self n : Int) : RefV := ⟨self, n, [], [], []⟩
def RSame06F : Nat := 42
def RSame09F : Nat := 41
def RDocsF : Nat := 13
def ExtF (G H : CF) : Prop := ∀ (a : Option Addr) (xs : List Value), (∀ b v, Rd (G b v) a xs) → ∀ b v, Rd (H b v) a xs
def withD (G : CF) (d : DocV) (a : DocA) : CF := fun b v => allC [rowC 48 3 (.slice a.la d.s.legs.length a.lc) d.s.legs.length (cellsL encLeg d.s.legs), rowC 172 2 (.slice a.ta d.s.taxes.length a.tc) d.s.taxes.length (cellsL encTax d.s.taxes), rowC 2 1 (.slice a.va d.vals.length a.vc) d.vals.length (d.vals.map (.int .i64)), G b v]
theorem rd_in {l : List Chunk} {i : Nat} {c : Chunk} (hi : l[i]? = some c) {a : Option Addr} {xs : List Value} (h : Rd c a xs) : Rd (allC l) a xs := fun S w hS => by
  obtain ⟨F, -, f2, -⟩ := hS
  exact h (F i) w (f2 i c hi)
theorem withD_ext (G : CF) (d : DocV) (a : DocA) : ExtF G (withD G d a) := fun x xs h b v => rd_in (i := 3) rfl (h b v)
structure DocRdG (G : CF) (d : DocV) (a : DocA) : Prop where
  l : ∀ b v, Rd (G b v) a.la (cellsL encLeg d.s.legs)
  t : ∀ b v, Rd (G b v) a.ta (cellsL encTax d.s.taxes)
  v : ∀ b v, Rd (G b v) a.va (d.vals.map (.int .i64))
theorem DocRdG.ext {G H : CF} (e : ExtF G H) {d : DocV} {a : DocA} (h : DocRdG G d a) : DocRdG H d a := ⟨e _ _ h.l, e _ _ h.t, e _ _ h.v⟩
theorem withD_rd (G : CF) (d : DocV) (a : DocA) : DocRdG (withD G d a) d a := ⟨fun b v => rd_in (i := 0) rfl rd_row, fun b v => rd_in (i := 1) rfl rd_row, fun b v => rd_in (i := 2) rfl rd_row⟩
structure DocSl (d : DocV) (a : DocA) : Prop where
  l : SlOk a.la d.s.legs.length a.lc
  t : SlOk a.ta d.s.taxes.length a.tc
  v : SlOk a.va d.vals.length a.vc
theorem rawF {f : Nat} {args : SV → SV → SV → List SV} {pre post : Heap} {ret : SV} {d : DocV} {G : CF} (hargs : ∀ ε x y z x' y' z', SV.den ε x = SV.den ε x' → SV.den ε y = SV.den ε y' → SV.den ε z = SV.den ε z' → SV.dens ε (args x y z) = SV.dens ε (args x' y' z'))
    (h : ∀ (H : CF) (a : DocA), ExtF G H → DocRdG H d a → DocSl d a → CallOK Tryz.prog f (args (.val (.slice a.la d.s.legs.length a.lc)) (.val (.slice a.ta d.s.taxes.length a.tc)) (.val (.slice a.va d.vals.length a.vc))) [((0, 9), .fam H)] pre ret post) :
    CallOK Tryz.prog f (args (.raw 0 10) (.raw 0 11) (.raw 0 12)) (docI d ++ [((0, 9), .fam G)]) pre ret post := by
  intro ε R w hM
  have hM : Mem (rowC 48 3 (asSl (ε 0 10).2) d.s.legs.length (cellsL encLeg d.s.legs) :: rowC 172 2 (asSl (ε 0 11).2) d.s.taxes.length (cellsL encTax d.s.taxes) :: rowC 2 1 (asSl (ε 0 12).2) d.vals.length (d.vals.map (.int .i64)) :: G (ε 0 9).1 (ε 0 9).2 :: (hden ε pre ++ R)) w := hM
  obtain ⟨la, lc, hvl, okl⟩ := row_sl (hM.owns 0 rfl)
  obtain ⟨ta, tc, hvt, okt⟩ := row_sl (hM.owns 1 rfl)
  obtain ⟨va, vc, hvv, okv⟩ := row_sl (hM.owns 2 rfl)
  rw [hvl, hvt, hvv] at hM
  have hc := h (withD G d ⟨la, lc, ta, tc, va, vc⟩) ⟨la, lc, ta, tc, va, vc⟩ (withD_ext _ _ _) (withD_rd _ _ _) ⟨okl, okt, okv⟩
  rw [hargs ε (.raw 0 10) (.raw 0 11) (.raw 0 12) (.val (.slice la d.s.legs.length lc)) (.val (.slice ta d.s.taxes.length tc)) (.val (.slice va d.vals.length vc)) hvl hvt hvv]
  have hM2 := Mem.in_all (l := [_, _, _, _]) hM
  refine (hc ε R w hM2).mono ?_
  rintro e w' ⟨x, rfl, hm⟩
  refine ⟨x, rfl, ?_⟩
  have e0 : ∀ k, eset ε 1 x 0 k = ε 0 k := fun k => by rw [eset_ne (by decide)]
  have hm : Mem (withD G d ⟨la, lc, ta, tc, va, vc⟩ (eset ε 1 x 0 9).1 (eset ε 1 x 0 9).2 :: (hden (eset ε 1 x) post ++ R)) w' := hm
  have hm := hm.all
  show Mem (rowC 48 3 (asSl (eset ε 1 x 0 10).2) d.s.legs.length (cellsL encLeg d.s.legs) :: rowC 172 2 (asSl (eset ε 1 x 0 11).2) d.s.taxes.length (cellsL encTax d.s.taxes) :: rowC 2 1 (asSl (eset ε 1 x 0 12).2) d.vals.length (d.vals.map (.int .i64)) :: G (eset ε 1 x 0 9).1 (eset ε 1 x 0 9).2 :: (hden (eset ε 1 x) post ++ R)) w'
  rw [e0 10, e0 11, e0 12, hvl, hvt, hvv]
  exact hm
end Go.Proofs.YtmhbpifhpolghaaGreat
end
