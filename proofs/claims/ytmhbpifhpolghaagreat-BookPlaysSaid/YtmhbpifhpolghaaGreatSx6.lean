/- SX: every operation. -/
import Derived.Test.YtmhbpifhpolghaaGreatSxP
namespace Go.Sx
set_option linter.unusedVariables false
set_option linter.unusedSimpArgs false
open Go.RowKit Go.Tk Go.Lib Go.Shelf Go.Vc
section
variable {P : Program} {s : Nat} {o : Oper} {ev : Ev1} {ρ : Operand → Value} {ε : Env} {H : Heap} {out : Out} {w : World}
def nilNe : TypeDesc → SV → SV → Bool
  | .pointer _, .ptr _ _ _, .val (.pointer none) => true
  | .pointer _, .val (.pointer none), .ptr _ _ _ => true
  | .pointer _, .elt _ _ _ _ _, .val (.pointer none) => true
  | .pointer _, .val (.pointer none), .elt _ _ _ _ _ => true
  | .map _ _, .map _ _, .val (.map none) => true
  | .map _ _, .val (.map none), .map _ _ => true
  | .func _ _ _, .fn _ _ _, .val .nilFunc => true
  | .func _ _ _, .val .nilFunc, .fn _ _ _ => true
  | _, _, _ => false
def sCmp (P : Program) (op : BinOp) (t : Nat) (v u : SV) : Option Out := match P.underlying t with
  | some d => bif nilNe d v u then (match op with
      | .eql => some ⟨.val (.bool false), [], [], []⟩
      | .neq => some ⟨.val (.bool true), [], [], []⟩
      | _ => none) else none
  | none => none
theorem nilNe_run {d : TypeDesc} {v u : SV} {t : Nat} (h : nilNe d v u = true) (hd : P.underlying t = some d) (w : World) (m : Nat) : (Op.equalIn (m + 1) t (v.den ε) (u.den ε)).run P w = .ok false w := by
  unfold nilNe at h
  split at h <;> first | (cases h; done) | simp [SV.den, Op.equalIn, run_underlying hd]
theorem nilNe_bin {d : TypeDesc} {v u : SV} {t : Nat} {op : BinOp} {x y : Operand} (h : nilNe d v u = true) (hd : P.underlying t = some d) (w : World) :
    (binOp .eql t (v.den ε) (u.den ε)).run P w = .ok (.bool false) w ∧ (binOp .neq t (v.den ε) (u.den ε)).run P w = .ok (.bool true) w ∧ eqGuard op t x y (v.den ε) (u.den ε) = pure () := by
  have h1 := nilNe_run (ε := ε) h hd w 9999
  unfold nilNe at h
  split at h <;> first
    | (cases h; done)
    | (simp only [SV.den] at h1 ⊢
       refine ⟨?_, ?_, ?_⟩
       · simp [binOp, Op.equal, Op.maxDepth, h1]
       · simp [binOp, Op.equal, Op.maxDepth, h1]
       · cases op <;> simp [eqGuard])
theorem sCmp_ok {op : BinOp} {t t' : Nat} {x y : Operand} {v u : SV} (ho : o.op = .binOp op t x y t') (hx : ρ x = v.den ε) (hy : ρ y = u.den ε) (h : sCmp P op t v u = some out) : Sound P s o ρ ε H out := by
  unfold sCmp at h
  split at h <;> try (cases h; done)
  rename_i d hd
  cases hb : nilNe d v u with
  | false => rw [hb] at h; cases h
  | true =>
    rw [hb] at h
    simp only [cond_true] at h
    split at h <;> try (cases h; done)
    · cases h
      refine sound_pure fun R w hM => ?_
      obtain ⟨h1, -, h3⟩ := nilNe_bin (ε := ε) (op := .eql) (x := x) (y := y) hb hd w
      unfold execOp; rw [ho]
      simp only [hx, hy]
      simp [h1, h3, SV.den, go_sem]
    · cases h
      refine sound_pure fun R w hM => ?_
      obtain ⟨-, h1, h3⟩ := nilNe_bin (ε := ε) (op := .neq) (x := x) (y := y) hb hd w
      unfold execOp; rw [ho]
      simp only [hx, hy]
      simp [h1, h3, SV.den, go_sem]
def sCmpS (P : Program) (H : Heap) (op : BinOp) (t : Nat) (v u : SV) : Option Out := match v with
  | .raw s k => match hget H (s, k) with
    | .row _ sz n _ _ => match u with
      | .val (.slice none 0 0) => match P.underlying t with
        | some (.slice _) => bif Nat.blt 0 n && Nat.blt 0 sz then (match op with
          | .eql => some ⟨.val (.bool false), [], [(s, k)], []⟩
          | .neq => some ⟨.val (.bool true), [], [(s, k)], []⟩
          | _ => none) else none
        | _ => none
      | _ => none
    | _ => none
  | _ => none
theorem nilSl {t e : Nat} (hT : P.underlying t = some (.slice e)) (a : Addr) (n c : Nat) (w : World) (m : Nat) : (Op.equalIn (m + 1) t (.slice (some a) n c) (.slice none 0 0)).run P w = .ok false w := by simp [Op.equalIn, run_underlying hT]
theorem sCmpS_ok {op : BinOp} {t t' : Nat} {x y : Operand} {v u : SV} (ho : o.op = .binOp op t x y t') (hx : ρ x = v.den ε) (hy : ρ y = u.den ε) (h : sCmpS P H op t v u = some out) : Sound P s o ρ ε H out := by
  unfold sCmpS at h
  split at h <;> try (cases h; done)
  rename_i s' k
  split at h <;> try (cases h; done)
  rename_i E sz n xs ws hg
  split at h <;> try (cases h; done)
  split at h <;> try (cases h; done)
  rename_i e hT
  cases hb : Nat.blt 0 n && Nat.blt 0 sz with
  | false => rw [hb] at h; cases h
  | true =>
    rw [hb] at h
    simp only [cond_true] at h
    simp only [Bool.and_eq_true, Nat.blt_eq] at hb
    have key : ∀ R w, Mem (tden ε H [(s', k)] ++ R) w → ∃ a c, ρ x = .slice (some a) n c := fun R w hM => by
      simp only [tden, List.map_cons, List.map_nil, hg, List.cons_append, List.nil_append] at hM
      obtain ⟨c, hv⟩ := row_elem (row_den hM).1 0 hb.1 hb.2
      exact ⟨_, c, hx.trans (by simp only [SV.den]; exact hv)⟩
    have hy : ρ y = .slice none 0 0 := hy.trans (by simp only [SV.den])
    split at h <;> try (cases h; done)
    · cases h
      refine sound_pure fun R w hM => ?_
      obtain ⟨a, c, hx⟩ := key R w hM
      have h1 : (Op.equalIn 10000 t (.slice (some a) n c) (.slice none 0 0)).run P w = .ok false w := nilSl hT a n c w 9999
      unfold execOp; rw [ho]
      simp only [hx, hy]
      simp [binOp, Op.equal, Op.maxDepth, h1, eqGuard, SV.den, go_sem]
    · cases h
      refine sound_pure fun R w hM => ?_
      obtain ⟨a, c, hx⟩ := key R w hM
      have h1 : (Op.equalIn 10000 t (.slice (some a) n c) (.slice none 0 0)).run P w = .ok false w := nilSl hT a n c w 9999
      unfold execOp; rw [ho]
      simp only [hx, hy]
      simp [binOp, Op.equal, Op.maxDepth, h1, eqGuard, SV.den, go_sem]
def sBuiltin (P : Program) (s : Nat) (ev : Ev1) (H : Heap) (opt : Opt) (c : Call) (b : Builtin) : Option Out := match b with
  | .len => match c.args.toList with
    | [x] => match ev x, c.argTypes[0]? with
      | some v, some t => sLen P H t v
      | _, _ => none
    | _ => none
  | .append => match c.args.toList, c.argTypes.toList with
    | [x, y], [t, t'] => match ev x, ev y with
      | some v, some u => sApp P s H opt t t' v u
      | _, _ => none
    | _, _ => none
  | _ => none
theorem arr_one {α : Type} {a : Array α} {x : α} (h : a.toList = [x]) : a = #[x] := Array.ext' h
theorem sBuiltin_ok {c : Call} {b : Builtin} (ho : o.op = .call c) (hc : c.callee = .builtin b) {opt : Opt} (h : sBuiltin P s ev H opt c b = some out) (hev : EvOK ev o ρ ε s) (hk : ChkOK out.chk) (hsc : ScOK s H) : Sound P s o ρ ε H out := by
  unfold sBuiltin at h
  split at h <;> try (cases h; done)
  · split at h <;> try (cases h; done)
    rename_i x ha
    split at h <;> try (cases h; done)
    rename_i v t hv ht
    have ha := arr_one ha
    exact sLen_ok ho hc ha ht (hev x (by rw [ho]; simp [Op.operands, Call.operands, hc, ha]) v hv).1 h
  · split at h <;> try (cases h; done)
    rename_i x y t t' ha hat
    split at h <;> try (cases h; done)
    rename_i v u hv hu
    have ha : c.args = #[x, y] := Array.ext' ha
    have hat : c.argTypes = #[t, t'] := Array.ext' hat
    exact sApp_ok ho hc ha hat (hev x (by rw [ho]; simp [Op.operands, Call.operands, hc, ha]) v hv).1 (hev y (by rw [ho]; simp [Op.operands, Call.operands, hc, ha]) u hu).1 hsc h hk
def orStill (P : Program) (o : Oper) (ev : Ev1) (x : Option Out) : Option Out := match x with
  | some y => some y
  | none => sStill P o ev
theorem orStill_ok {x : Option Out} (h : orStill P o ev x = some out) (hev : EvOK ev o ρ ε s) (hx : x = some out → Sound P s o ρ ε H out) : Sound P s o ρ ε H out := by
  unfold orStill at h
  split at h
  · cases h; exact hx rfl
  · exact sStill_ok h hev
def ev2 (ev : Ev1) (x y : Operand) (f : SV → SV → Option Out) : Option Out := match ev x with
  | some v => match ev y with
    | some u => f v u
    | none => none
  | none => none
def ev1 (ev : Ev1) (x : Operand) (f : SV → Option Out) : Option Out := match ev x with
  | some v => f v
  | none => none
theorem ev1_some {x : Operand} {f : SV → Option Out} (h : ev1 ev x f = some out) : ∃ v, ev x = some v ∧ f v = some out := by
  unfold ev1 at h
  split at h
  · rename_i v hv; exact ⟨v, hv, h⟩
  · cases h
theorem ev2_some {x y : Operand} {f : SV → SV → Option Out} (h : ev2 ev x y f = some out) : ∃ v u, ev x = some v ∧ ev y = some u ∧ f v u = some out := by
  unfold ev2 at h
  split at h
  · rename_i v hv
    split at h
    · rename_i u hu; exact ⟨v, u, hv, hu, h⟩
    · cases h
  · cases h
def ev3 (ev : Ev1) (x y z : Operand) (f : SV → SV → SV → Option Out) : Option Out := match ev x with
  | some v => match ev y with
    | some u => match ev z with
      | some q => f v u q
      | none => none
    | none => none
  | none => none
theorem ev3_some {x y z : Operand} {f : SV → SV → SV → Option Out} (h : ev3 ev x y z f = some out) : ∃ v u q, ev x = some v ∧ ev y = some u ∧ ev z = some q ∧ f v u q = some out := by
  unfold ev3 at h
  split at h
  · rename_i v hv
    split at h
    · rename_i u hu
      split at h
      · rename_i q hq; exact ⟨v, u, q, hv, hu, hq, h⟩
      · cases h
    · cases h
  · cases h
def eqFs (P : Program) (g : TypeId → SV → SV → Option Bool) (xs ys : List SV) : List Field → Option Bool
  | [] => some true
  | f :: fs => bif f.name != "_" then (match partAt P f.type xs f.offset, partAt P f.type ys f.offset with
      | some a, some b => (match g f.type a b, eqFs P g xs ys fs with
        | some r, some q => some (r && q)
        | _, _ => none)
      | _, _ => none)
    else eqFs P g xs ys fs
def eqT (P : Program) : Nat → TypeId → SV → SV → Option Bool
  | 0, _, _, _ => none
  | d + 1, t, x, y => match P.underlying t with
    | some (.int _) => (match x, y with
      | .val (.int k a), .val (.int k' b) => bif decide (k = k') then some (decide (a = b)) else none
      | _, _ => none)
    | some .bool => (match x, y with
      | .val (.bool a), .val (.bool b) => some (a == b)
      | _, _ => none)
    | some .string => (match x, y with
      | .val (.string a), .val (.string b) => some (decide (a = b))
      | _, _ => none)
    | some (.struct fs) => bif P.stoodInHeld t then none else (match x, y with
      | .agg xs, .agg ys => eqFs P (eqT P d) xs ys fs.toList
      | _, _ => none)
    | _ => none
theorem eqFs_ok {d m : Nat} (ih : ∀ t x y b, eqT P d t x y = some b → ∀ w, (Op.equalIn (m + d) t (x.den ε) (y.den ε)).run P w = .ok b w) {xs ys : List SV} : ∀ {fs : List Field} {b : Bool}, eqFs P (eqT P d) xs ys fs = some b → ∀ w, (Op.eqFields (m + d) (SV.dens ε xs).toArray (SV.dens ε ys).toArray fs).run P w = .ok b w
  | [], b, h, w => by cases h; simp [Op.eqFields]
  | f :: fs, b, h, w => by
    unfold eqFs at h
    cases hn : f.name != "_" with
    | false =>
      rw [hn] at h
      simp only [cond_false] at h
      have hn' : ¬ (f.name ≠ "_") := by simpa using hn
      unfold Op.eqFields
      rw [if_neg hn']
      exact eqFs_ok ih h w
    | true =>
      rw [hn] at h
      simp only [cond_true] at h
      split at h <;> try (cases h; done)
      rename_i a b' ha hb
      split at h <;> try (cases h; done)
      rename_i r q hr hq
      cases h
      have hn' : f.name ≠ "_" := by simpa using hn
      unfold Op.eqFields
      rw [if_pos hn']
      simp only [Sem.run_bind, run_partAt ha, run_partAt hb, Result.andThen, ih _ _ _ _ hr]
      cases r with
      | false => simp
      | true => simpa using eqFs_ok ih hq w
theorem eqT_ok : ∀ (d : Nat) (m : Nat) (t : TypeId) (x y : SV) (b : Bool), eqT P d t x y = some b → ∀ w, (Op.equalIn (m + d) t (x.den ε) (y.den ε)).run P w = .ok b w
  | 0, _, _, _, _, _, h, _ => by cases h
  | d + 1, m, t, x, y, b, h, w => by
    unfold eqT at h
    split at h <;> try (cases h; done)
    · rename_i k0 hT
      split at h <;> try (cases h; done)
      rename_i k a k' b'
      by_cases hk : k = k'
      · rw [decide_eq_true hk] at h
        simp only [cond_true] at h
        cases h
        subst hk
        have := run_equalIn_int (P := P) w (m + d) t k k0 a b' hT
        simp only [SV.den]
        rw [show m + (d + 1) = (m + d) + 1 from rfl, this]
        congr 1
      · rw [decide_eq_false hk] at h; cases h
    · rename_i hT
      split at h <;> try (cases h; done)
      rename_i a b'
      cases h
      simp only [SV.den]
      exact run_equalIn_bool' (P := P) w (m + d) t a b' hT
    · rename_i hT
      split at h <;> try (cases h; done)
      rename_i a b'
      cases h
      simp only [SV.den]
      rw [show m + (d + 1) = (m + d) + 1 from rfl, run_equalIn_string (P := P) w (m + d) t a b' hT, ← beq_toListBytes, ba_beq]
    · rename_i fs hT
      cases hs : P.stoodInHeld t with
      | true => rw [hs] at h; cases h
      | false =>
        rw [hs] at h
        simp only [cond_false] at h
        split at h <;> try (cases h; done)
        rename_i xs ys
        have hf : P.fieldsOf t = fs := by unfold Program.fieldsOf; rw [hT]
        simp only [SV.den]
        rw [show m + (d + 1) = (m + d) + 1 from rfl, run_equalIn_agg (P := P) w (m + d) t _ _ (by rw [hf]; exact hT) hs, hf]
        exact eqFs_ok (eqT_ok d m) h w
def sEq (P : Program) (op : BinOp) (t : Nat) (v u : SV) : Option Out := match v, u with
  | .agg xs, .agg ys => bif P.eqGuardType P.depth t then none else (match eqT P 20 t (.agg xs) (.agg ys) with
    | some b => (match op with
      | .eql => some ⟨.val (.bool b), [], [], []⟩
      | .neq => some ⟨.val (.bool (!b)), [], [], []⟩
      | _ => none)
    | none => none)
  | _, _ => none
theorem sEq_ok {op : BinOp} {t t' : Nat} {x y : Operand} {v u : SV} (ho : o.op = .binOp op t x y t') (hx : ρ x = v.den ε) (hy : ρ y = u.den ε) (h : sEq P op t v u = some out) : Sound P s o ρ ε H out := by
  unfold sEq at h
  split at h <;> try (cases h; done)
  rename_i xs ys
  cases hg : P.eqGuardType P.depth t with
  | true => rw [hg] at h; cases h
  | false =>
    rw [hg] at h
    simp only [cond_false] at h
    split at h <;> try (cases h; done)
    rename_i b hb
    have hq := fun w => eqT_ok (ε := ε) 20 9980 t _ _ b hb w
    simp only [SV.den] at hq hx hy
    split at h <;> try (cases h; done)
    · cases h
      exact sound_pure fun R w hM => by simp only [SV.den]; exact x_eqA ho hx hy hg (hq w)
    · cases h
      exact sound_pure fun R w hM => by simp only [SV.den]; exact x_neA ho hx hy hg (hq w) rfl
def sCmp2 (P : Program) (H : Heap) (op : BinOp) (t : Nat) (v u : SV) : Option Out := match sCmp P op t v u with
  | some x => some x
  | none => match sEq P op t v u with
    | some x => some x
    | none => sCmpS P H op t v u
def sConv (P : Program) (s : Nat) (H : Heap) (opt : Opt) (src dst : Nat) (v : SV) : Option Out := match sToBytes P s opt src dst v with
  | some x => some x
  | none => sToStr P H opt src dst v
def opN (P : Program) (s : Nat) (o : Oper) (ev : Ev1) (H : Heap) (opt : Opt) : Option Out := match o.op with
  | .move x => sMove ev x
  | .assign x => sMove ev x
  | .pick c x y => sPick ev c x y
  | .alloc t => sAlloc P s t
  | .box _ x => ev1 ev x (sBox s)
  | .build t ps => sBuild P ev t ps
  | .buildSlice t n ps => sBuildS P ev s t n ps
  | .load t x => ev1 ev x (sLoad P H t)
  | .store t x y => ev2 ev x y (sStore P H t)
  | .nilCheck x => orStill P o ev (sNil ev x)
  | .makeFunc f a b => sFunc ev f a b
  | .fieldAddr t x i => orStill P o ev (ev1 ev x (sFieldAddr P t i))
  | .field t x i => ev1 ev x (sField P t i)
  | .extract x i => sExtract ev x i
  | .binOp op t x y _ => orStill P o ev (ev2 ev x y (sCmp2 P H op t))
  | .call c => match c.callee with
    | .builtin b => orStill P o ev (sBuiltin P s ev H opt c b)
    | _ => none
  | .convert a b x => orStill P o ev (ev1 ev x (sConv P s H opt a b))
  | .makeSlice t x y => ev2 ev x y (sMake P s opt t)
  | .indexAddr t x y => ev2 ev x y (sIdx P H opt t)
  | .lookup t x y c => orStill P o ev (ev2 ev x y (sLookup P H t c))
  | .mapUpdate t x y z => ev3 ev x y z (sMapUpdate P H t)
  | .insert t x y z => ev3 ev x y z (sMapUpdate P H t)
  | .makeMap t none => sMakeMap s
  | .slice t x lo hi none => orStill P o ev (ev1 ev x fun v => sSlice P H ev t v lo hi)
  | .select _ _ => none
  | _ => sStill P o ev
theorem opN_ok {opt : Opt} (h : opN P s o ev H opt = some out) (hev : EvOK ev o ρ ε s) (hk : ChkOK out.chk) (hsc : ScOK s H) : Sound P s o ρ ε H out := by
  unfold opN at h
  split at h
  · rename_i x ho; exact sMove_ok (.inl ho) h hev
  · rename_i x ho; exact sMove_ok (.inr ho) h hev
  · rename_i c x y ho; exact sPick_ok ho h hev
  · rename_i t ho; exact sAlloc_ok ho h
  · rename_i t x ho
    obtain ⟨v, hv, h⟩ := ev1_some h
    have := hev x (by rw [ho]; simp [Op.operands]) v hv
    exact sBox_ok ho this.1 this.2 h
  · rename_i t ps ho; exact sBuild_ok ho h hev
  · rename_i t n ps ho; exact sBuildS_ok ho h hev
  · rename_i t x ho
    obtain ⟨v, hv, h⟩ := ev1_some h
    exact sLoad_ok ho (hev x (by rw [ho]; simp [Op.operands]) v hv).1 h hk
  · rename_i t x y ho
    obtain ⟨v, u, hv, hu, h⟩ := ev2_some h
    exact sStore_ok ho (hev x (by rw [ho]; simp [Op.operands]) v hv).1 (hev y (by rw [ho]; simp [Op.operands]) u hu).1 h hk
  · rename_i x ho; exact orStill_ok h hev fun h => sNil_ok ho h hev
  · rename_i f a b ho; exact sFunc_ok ho h hev
  · rename_i t x i ho
    refine orStill_ok h hev fun h => ?_
    obtain ⟨v, hv, h⟩ := ev1_some h
    exact sFieldAddr_ok ho (hev x (by rw [ho]; simp [Op.operands]) v hv).1 h
  · rename_i t x i ho
    obtain ⟨v, hv, h⟩ := ev1_some h
    exact sField_ok ho (hev x (by rw [ho]; simp [Op.operands]) v hv).1 h
  · rename_i x i ho; exact sExtract_ok ho h hev
  · rename_i op t x y t' ho
    refine orStill_ok h hev fun h => ?_
    obtain ⟨v, u, hv, hu, h⟩ := ev2_some h
    have hx := (hev x (by rw [ho]; simp [Op.operands]) v hv).1
    have hy := (hev y (by rw [ho]; simp [Op.operands]) u hu).1
    unfold sCmp2 at h
    split at h
    · rename_i y hy'; cases h; exact sCmp_ok ho hx hy hy'
    · split at h
      · rename_i y hy'; cases h; exact sEq_ok ho hx hy hy'
      · exact sCmpS_ok ho hx hy h
  · rename_i c ho
    split at h <;> try (cases h; done)
    rename_i b hc
    exact orStill_ok h hev fun h => sBuiltin_ok ho hc h hev hk hsc
  · rename_i a b x ho
    refine orStill_ok h hev fun h => ?_
    obtain ⟨v, hv, h⟩ := ev1_some h
    have hx := (hev x (by rw [ho]; simp [Op.operands]) v hv).1
    unfold sConv at h
    split at h
    · rename_i y hy; cases h; exact sToBytes_ok ho hx hy hk
    · exact sToStr_ok ho hx h hk
  · rename_i t x y ho
    obtain ⟨v, u, hv, hu, h⟩ := ev2_some h
    exact sMake_ok ho (hev x (by rw [ho]; simp [Op.operands]) v hv).1 (hev y (by rw [ho]; simp [Op.operands]) u hu).1 h hk
  · rename_i t x y ho
    obtain ⟨v, u, hv, hu, h⟩ := ev2_some h
    exact sIdx_ok ho (hev x (by rw [ho]; simp [Op.operands]) v hv).1 (hev y (by rw [ho]; simp [Op.operands]) u hu).1 h hk
  · rename_i t x y c ho
    refine orStill_ok h hev fun h => ?_
    obtain ⟨v, u, hv, hu, h⟩ := ev2_some h
    exact sLookup_ok ho (hev x (by rw [ho]; simp [Op.operands]) v hv).1 (hev y (by rw [ho]; simp [Op.operands]) u hu).1 h
  · rename_i t x y z ho
    obtain ⟨v, u, q, hv, hu, hq, h⟩ := ev3_some h
    exact sMapUpdate_ok (.inl ho) (hev x (by rw [ho]; simp [Op.operands]) v hv).1 (hev y (by rw [ho]; simp [Op.operands]) u hu).1 (hev z (by rw [ho]; simp [Op.operands]) q hq).1 h
  · rename_i t x y z ho
    obtain ⟨v, u, q, hv, hu, hq, h⟩ := ev3_some h
    exact sMapUpdate_ok (.inr ho) (hev x (by rw [ho]; simp [Op.operands]) v hv).1 (hev y (by rw [ho]; simp [Op.operands]) u hu).1 (hev z (by rw [ho]; simp [Op.operands]) q hq).1 h
  · rename_i t ho; exact sMakeMap_ok ho h
  · rename_i t x lo hi ho
    refine orStill_ok h hev fun h => ?_
    obtain ⟨v, hv, h⟩ := ev1_some h
    exact sSlice_ok ho (hev x (by rw [ho]; simp [Op.operands]) v hv).1 hev h
  · cases h
  · exact sStill_ok h hev
def tk (p : Hint P → Bool) : List (Hint P) → Option (Hint P × List (Hint P))
  | [] => none
  | h :: l => bif p h then some (h, l) else match tk p l with
    | some (x, l') => some (x, h :: l')
    | none => none
def isCallH (r i q : Nat) : Hint P → Bool
  | .call r' i' q' _ _ _ _ _ _ => Nat.beq q q' && (Nat.beq r' 1000000 || Nat.beq r r' && Nat.beq i i')
  | _ => false
def isOptH (r i : Nat) : Hint P → Bool
  | .opt r' i' _ => Nat.beq r r' && Nat.beq i i'
  | _ => false
def isOpcH (r i : Nat) : Hint P → Bool
  | .opc r' i' _ _ _ _ _ _ _ _ _ => Nat.beq r r' && Nat.beq i i'
  | _ => false
def isOpgH (r i : Nat) : Hint P → Bool
  | .opg r' i' _ _ _ _ _ _ _ _ => Nat.beq r r' && Nat.beq i i'
  | _ => false
def isValH (r i : Nat) : Hint P → Bool
  | .val r' i' _ _ _ _ => Nat.beq r r' && Nat.beq i i'
  | _ => false
def sCall (P : Program) (cal : Callee P) (r i s : Nat) (ev : Ev1) (H : Heap) (hs : List (Hint P)) (g : Operand) (xs : List Operand) : Option (Out × List (Hint P)) :=
  match ev g with
  | some (.fn (.func q) a c) => match evs ev xs with
    | some vs => bif entersB P q then
        match tk (isCallH r i q) hs with
        | some (.call r' i' q' pargs rd pre ret post _, rest) =>
          bif Nat.beq q q' then (match sCallH H s (a ++ vs ++ c) pargs rd pre ret post with
            | some out => some (out, rest)
            | none => none)
          else none
        | _ => cal q (a ++ vs ++ c) H hs s
      else none
    | none => none
  | _ => none
def isCall (o : Oper) : Option (Operand × List Operand) := match o.op with
  | .call c => match c.callee with
    | .value g => some (g, c.args.toList)
    | _ => none
  | _ => none
def opC (P : Program) (cal : Callee P) (r i s : Nat) (o : Oper) (ev : Ev1) (H : Heap) (hs : List (Hint P)) : Option (Out × List (Hint P)) :=
  match isCall o with
  | some (g, xs) => sCall P cal r i s ev H hs g xs
  | none => match tk (isOptH r i) hs with
    | some (.opt _ _ p, rest) => (match opN P s o ev H p with
        | some out => some (out, rest)
        | none => none)
    | _ => match opN P s o ev H .none with
      | some out => some (out, hs)
      | none => none
def opB (P : Program) (cal : Callee P) (r i s : Nat) (o : Oper) (ev : Ev1) (H : Heap) (hs : List (Hint P)) : Option (Out × List (Hint P)) :=
  match tk (isOpcH r i) hs with
  | some (.opc _ _ o' xs pargs rd pre ret post _ _, rest) =>
      match evs ev xs with
      | some vs => (match sCallH H s vs pargs rd pre ret post with
        | some out => some (⟨out.v, out.upd, out.rd, (.op o, .op o') :: out.chk⟩, rest)
        | none => none)
      | none => none
  | _ => match tk (isOpgH r i) hs with
    | some (.opg _ _ p xs pargs rd pre ret post _, rest) => bif p o then
        (match evs ev (xs o) with
        | some vs => (match sCallH H s vs pargs rd pre ret post with
          | some out => some (out, rest)
          | none => none)
        | none => none) else none
    | _ => opC P cal r i s o ev H hs
def sOp (P : Program) (cal : Callee P) (r i s : Nat) (o : Oper) (ev : Ev1) (H : Heap) (hs : List (Hint P)) : Option (Out × List (Hint P)) :=
  match tk (isValH r i) hs with
  | some (.val _ _ a b _ _, rest) =>
      match opB P cal r i s o ev H rest with
      | some (out, hs') => some (⟨b, out.upd, out.rd, (.sv out.v, .sv a) :: out.chk⟩, hs')
      | none => none
  | _ => opB P cal r i s o ev H hs
variable {cal : Callee P} {hs hs' : List (Hint P)} {r i : Nat}
theorem calls_sound {q : Nat} {full : List SV} (hcal : CalleeOK P cal) (h : cal q full H hs s = some (out, hs')) (hk : ChkOK out.chk) (ha : SV.oks (ltB s) full = true) (hsc : ScOK s H) (R : List Chunk) (w : World) (hM : Mem (tden ε H out.touch ++ R) w) :
    Calls P q (SV.dens ε full).toArray w fun e w' => ∃ u, e = .returned u ∧ After ε s H R out u w' := hcal _ _ _ _ _ _ _ h hk ha hsc ε R w hM
theorem sCall_ok {g : Operand} {xs : List Operand} {c : Call} (hcal : CalleeOK P cal) (ho : o.op = .call c) (hc : c.callee = .value g) (hxs : c.args.toList = xs) (h : sCall P cal r i s ev H hs g xs = some (out, hs')) (hev : EvOK ev o ρ ε s) (hk : ChkOK out.chk) (hsc : ScOK s H) : Sound P s o ρ ε H out := by
  unfold sCall at h
  split at h <;> try (cases h; done)
  rename_i q a c' hg
  split at h <;> try (cases h; done)
  rename_i vs hvs
  have hopg : g ∈ o.op.operands := by rw [ho]; simp [Op.operands, Call.operands, hc]
  have hopa : ∀ x ∈ xs, x ∈ o.op.operands := fun x hx => by rw [ho]; simp [Op.operands, Call.operands, hc]; exact .inr (by rw [← hxs] at hx; simpa using hx)
  have h1 := evs_ok (p := ltB s) (ε := ε) (ρ := ρ) hvs fun x hx v hv => hev x (hopa x hx) v hv
  have h2 := hev g hopg _ hg
  have hfull : SV.oks (ltB s) (a ++ vs ++ c') = true := by
    have h3 := h2.2
    simp only [SV.ok, Bool.and_eq_true] at h3
    have h4 := h1.2
    rw [oks_all] at h3 h4 ⊢
    rw [oks_all] at h3
    rw [List.all_append, List.all_append, Bool.and_eq_true, Bool.and_eq_true]
    exact ⟨⟨h3.1, h4⟩, h3.2⟩
  cases he : entersB P q with
  | false => rw [he] at h; cases h
  | true =>
    rw [he] at h
    simp only [cond_true] at h
    intro R w hM
    have hrun : (execOp ρ o).run P w = .ok (.enter q (SV.dens ε (a ++ vs ++ c')).toArray) w := by
      refine x_call (args := (SV.dens ε (a ++ vs ++ c')).toArray) ho hc (h2.1.trans (by simp only [SV.den]; rfl)) ?_ he
      have e : (c.args.map ρ) = (SV.dens ε vs).toArray := by
        apply Array.ext'
        rw [Array.toList_map, hxs, h1.1]
      rw [e, dens_append, dens_append]
      simp
    have fin : ∀ {out : Out}, (Calls P q (SV.dens ε (a ++ vs ++ c')).toArray w fun e w' => ∃ u, e = .returned u ∧ After ε s H R out u w') → Res P (After ε s H R out) ((execOp ρ o).run P w) := fun h => res_in hrun h
    split at h
    · rename_i r' i' q' pargs rd pre ret post hC rest ht
      cases hb : Nat.beq q q' with
      | false => rw [hb] at h; cases h
      | true =>
        rw [hb] at h
        simp only [cond_true] at h
        split at h <;> try (cases h; done)
        rename_i out' hout
        cases h
        have hq := Nat.eq_of_beq_eq_true hb
        subst hq
        exact fin (sCallH_ok hC hout hk ε R w hM)
    · exact fin (calls_sound hcal h hk hfull hsc R w hM)
theorem isCall_some {g : Operand} {xs : List Operand} (h : isCall o = some (g, xs)) : ∃ c, o.op = .call c ∧ c.callee = .value g ∧ c.args.toList = xs := by
  unfold isCall at h
  split at h <;> try (cases h; done)
  rename_i c ho
  split at h <;> try (cases h; done)
  rename_i g' hc
  cases h
  exact ⟨c, ho, hc, rfl⟩
theorem opC_ok (hcal : CalleeOK P cal) (h : opC P cal r i s o ev H hs = some (out, hs')) (hev : EvOK ev o ρ ε s) (hk : ChkOK out.chk) (hsc : ScOK s H) : Sound P s o ρ ε H out := by
  unfold opC at h
  split at h
  · rename_i g xs hc
    obtain ⟨c, ho, hc, hxs⟩ := isCall_some hc
    exact sCall_ok hcal ho hc hxs h hev hk hsc
  · split at h
    · split at h <;> try (cases h; done)
      rename_i out' hout
      cases h
      exact opN_ok hout hev hk hsc
    · split at h <;> try (cases h; done)
      rename_i out' hout
      cases h
      exact opN_ok hout hev hk hsc
theorem opB_ok (hcal : CalleeOK P cal) (h : opB P cal r i s o ev H hs = some (out, hs')) (hev : EvOK ev o ρ ε s) (hk : ChkOK out.chk) (hsc : ScOK s H) : Sound P s o ρ ε H out := by
  unfold opB at h
  split at h
  · rename_i r' i' o' xs pargs rd pre ret post hin hC rest ht
    split at h <;> try (cases h; done)
    rename_i vs hvs
    split at h <;> try (cases h; done)
    rename_i out' hout
    cases h
    have e1 : o = o' := by have := hk _ List.mem_cons_self; simpa using this
    subst e1
    have h1 := evs_ok (p := ltB s) (ε := ε) (ρ := ρ) hvs fun x hx v hv => hev x (hin x hx) v hv
    exact sOpH_ok hC hout (fun c hc => hk c (List.mem_cons_of_mem _ hc)) ε h1.1
  · split at h
    · rename_i r' i' p xs pargs rd pre ret post hC rest ht
      cases hp : p o with
      | false => rw [hp] at h; cases h
      | true =>
        rw [hp] at h
        simp only [cond_true] at h
        split at h <;> try (cases h; done)
        rename_i vs hvs
        split at h <;> try (cases h; done)
        rename_i out' hout
        cases h
        obtain ⟨hin, hC⟩ := hC o hp
        have h1 := evs_ok (p := ltB s) (ε := ε) (ρ := ρ) hvs fun x hx v hv => hev x (hin x hx) v hv
        exact sOpH_ok hC hout hk ε h1.1
    · exact opC_ok hcal h hev hk hsc
theorem sOp_ok (hcal : CalleeOK P cal) (h : sOp P cal r i s o ev H hs = some (out, hs')) (hev : EvOK ev o ρ ε s) (hk : ChkOK out.chk) (hsc : ScOK s H) : Sound P s o ρ ε H out := by
  unfold sOp at h
  split at h
  · rename_i r' i' a b hab hbo rest ht
    split at h <;> try (cases h; done)
    rename_i out' hs1 hout
    cases h
    have e1 : out'.v = a := by have := hk _ List.mem_cons_self; simpa using this
    intro R w hM
    have := opB_ok hcal hout hev (fun c hc => hk c (List.mem_cons_of_mem _ hc)) hsc R w hM
    have mono : ∀ u w', After ε s H R out' u w' → After ε s H R ⟨b, out'.upd, out'.rd, (CV.sv out'.v, CV.sv a) :: out'.chk⟩ u w' := fun u w' ⟨x, h1, h2⟩ => ⟨x, by rw [h1, e1]; exact hab _, h2⟩
    generalize (execOp ρ o).run P w = rr at this
    cases rr with
    | halt x w' => simp only [Res] at this
    | ok x w' =>
      cases x <;> simp only [Res] at this ⊢
      case value u => exact mono _ _ this
      case skip => exact mono _ _ this
      case enter f args => exact Calls.mono this fun e w'' ⟨u, h1, h2⟩ => ⟨u, h1, mono _ _ h2⟩
      case row row args => exact Rows.mono this fun u w'' h2 => mono _ _ h2
  · exact opB_ok hcal h hev hk hsc
end
end Go.Sx
