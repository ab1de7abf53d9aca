/- SX: maps that are known whole, up to order. -/
import Derived.Test.YtmhbpifhpolghaaGreatSxO
import Derived.DeepKeys4
import Derived.StringKeys
namespace Go.Sx
set_option linter.unusedVariables false
set_option linter.unusedSimpArgs false
open Go.RowKit Go.Tk Go.Lib Go.Shelf Go.Vc Go.Instr Go.Maps
section
variable {P : Program} {s : Nat} {o : Oper} {ρ : Operand → Value} {ε : Env} {H : Heap} {out : Out} {w : World}
abbrev Ents := List (Value × SV × Nat)
def keyB (P : Program) (kt : TypeId) : Bool := match P.underlying kt with
  | some (.int _) => true
  | some .string => true
  | some (.struct _) => laidOutB P && (Nat.blt kt P.types.size && P.keyTypeAt 8 kt)
  | _ => false
theorem keyB_ok {kt : TypeId} (h : keyB P kt = true) : Keyed P kt := by
  unfold keyB at h
  split at h
  · rename_i q hu; exact int_keyed hu
  · rename_i hu; exact Keyed.of_law (WideMaps.string_law hu)
  · rename_i fs hu
    simp only [Bool.and_eq_true, Nat.blt_eq] at h
    exact Keyed.of_law (deep_law_laid h.1 (m := 8) (by omega) h.2.1 h.2.2 (by rw [hu]))
  · cases h
def KV (kt : TypeId) (K : Keyed P kt) : KeyKind P kt Value where
  kv v := v
  ok v := ∃ l, keyOf P kt v = some l
  inj h := h
  keyed := K
  reads h := h
def litB : Lit → Lit → Bool
  | .bool a, .bool b => decide (a = b)
  | .int k a, .int q b => decide (k = q) && decide (a = b)
  | .string a, .string b => decide (a = b)
  | .nil, .nil => true
  | _, _ => false
def noFl : Lit → Bool
  | .float _ _ => false
  | _ => true
theorem litB_eq {a b : Lit} (h : litB a b = true) : a = b := by
  unfold litB at h
  split at h <;> first | (cases h; done) | rfl | (simp at h; simp [h])
theorem litB_self {a : Lit} (h : noFl a = true) : litB a a = true := by
  cases a <;> first | (cases h; done) | simp [litB]
def isKey (P : Program) (kt : TypeId) (v : Value) : Bool := match keyOf P kt v with
  | some l => noFl l
  | none => false
theorem isKey_some {kt : TypeId} {v : Value} (h : isKey P kt v = true) : ∃ l, keyOf P kt v = some l ∧ noFl l = true := by
  unfold isKey at h
  split at h
  · rename_i l hl; exact ⟨l, hl, h⟩
  · cases h
theorem isKey_at {kt : TypeId} {v : Value} (h : isKey P kt v = true) : ∃ l, keyOf P kt v = some l := by
  obtain ⟨l, h, -⟩ := isKey_some h; exact ⟨l, h⟩
def sameK (P : Program) (kt : TypeId) (a b : Value) : Bool := match keyOf P kt a, keyOf P kt b with
  | some x, some y => litB x y
  | _, _ => false
theorem sameK_iff {kt : TypeId} (K : Keyed P kt) {a b : Value} (ha : isKey P kt a = true) (hb : isKey P kt b = true) : sameK P kt a b = true ↔ a = b := by
  obtain ⟨x, hx, hn⟩ := isKey_some ha
  obtain ⟨y, hy, -⟩ := isKey_some hb
  unfold sameK
  rw [hx, hy]
  constructor
  · intro h
    have := litB_eq h
    subst this
    exact K.inj hx hy
  · rintro rfl
    rw [hx] at hy; cases hy
    exact litB_self hn
def atK (P : Program) (kt : TypeId) (k : Value) : Ents → Option SV
  | [] => none
  | e :: l => bif sameK P kt e.1 k then some e.2.1 else atK P kt k l
def offK (P : Program) (kt : TypeId) (k : Value) : Ents → Ents
  | [] => []
  | e :: l => bif sameK P kt e.1 k then offK P kt k l else e :: offK P kt k l
def keysOK (P : Program) (kt : TypeId) (es : Ents) : Bool := es.all fun e => isKey P kt e.1
noncomputable local instance : DecidableEq Value := Classical.typeDecidableEq Value
theorem atK_lk {kt : TypeId} (K : Keyed P kt) {k : Value} (hk : isKey P kt k = true) (ε : Env) : ∀ {es : Ents}, keysOK P kt es = true → lk (entsDen ε es) k = (atK P kt k es).map (·.den ε)
  | [], _ => rfl
  | e :: l, h => by
    unfold keysOK at h
    rw [List.all_cons, Bool.and_eq_true] at h
    have ih := atK_lk K hk ε (es := l) h.2
    show lk ((e.1, e.2.1.den ε) :: entsDen ε l) k = (bif sameK P kt e.1 k then some e.2.1 else atK P kt k l).map (·.den ε)
    unfold lk at ih ⊢
    rw [List.find?_cons]
    by_cases he : e.1 = k
    · rw [(sameK_iff K h.1 hk).2 he]
      simp [he]
    · have : sameK P kt e.1 k = false := by
        cases hb : sameK P kt e.1 k with
        | false => rfl
        | true => exact absurd ((sameK_iff K h.1 hk).1 hb) he
      rw [this]
      simp only [he, decide_false, cond_false]
      exact ih
theorem offK_put {kt : TypeId} (K : Keyed P kt) {k : Value} (hk : isKey P kt k = true) (ε : Env) : ∀ {es : Ents}, keysOK P kt es = true → entsDen ε (offK P kt k es) = (entsDen ε es).filter (fun p => !decide (p.1 = k))
  | [], _ => rfl
  | e :: l, h => by
    unfold keysOK at h
    rw [List.all_cons, Bool.and_eq_true] at h
    have ih := offK_put K hk ε (es := l) h.2
    show entsDen ε (bif sameK P kt e.1 k then offK P kt k l else e :: offK P kt k l) = ((e.1, e.2.1.den ε) :: entsDen ε l).filter _
    rw [List.filter_cons]
    by_cases he : e.1 = k
    · rw [(sameK_iff K h.1 hk).2 he]
      simp only [cond_true, he, decide_true, Bool.not_true, Bool.false_eq_true, if_false]
      exact ih
    · have : sameK P kt e.1 k = false := by
        cases hb : sameK P kt e.1 k with
        | false => rfl
        | true => exact absurd ((sameK_iff K h.1 hk).1 hb) he
      rw [this]
      simp only [cond_false, he, decide_false, Bool.not_false, if_true]
      rw [← ih]; rfl
theorem objM_map {kt : TypeId} (K : Keyed P kt) {b : Nat} {es : Ents} (hk : keysOK P kt es = true) {S : Nat → Prop} (h : (objM b (entsDen ε es)).at_ S w) : MapAt (KV kt K) w b (entsDen ε es) := by
  obtain ⟨-, arr, clock, h1, h2, h3, h4, h5⟩ := h
  refine ⟨arr, clock, h1, ?_, h3, fun p hp => ?_, h4, h5⟩
  · simpa [KV] using h2
  · unfold entsDen at hp
    obtain ⟨e, he, rfl⟩ := List.mem_map.1 hp
    exact isKey_at (List.all_eq_true.1 hk e he)
theorem map_objM {kt : TypeId} {K : Keyed P kt} {b : Nat} {L : List (Value × Value)} {S : Nat → Prop} (hS : S b) (h : MapAt (KV kt K) w b L) : (objM b L).at_ S w := by
  obtain ⟨arr, clock, h1, h2, h3, -, h4, h5⟩ := h
  exact ⟨hS, arr, clock, h1, by simpa [KV] using h2, h3, h4, h5⟩
def sMakeMap (s : Nat) : Option Out := some ⟨.map s 0, [((s, 0), .obj [] 0)], [], []⟩
theorem mem_obj {cs : List Chunk} {w : World} (h : Mem cs w) : Mem (objM w.heap.size [] :: cs) (w.alloc (.map #[] 0)) :=
  h.fresh (below_alloc _ _) (fun k => k = w.heap.size) ⟨rfl, #[], 0, show (w.heap.push _)[w.heap.size]? = _ from Array.getElem?_push_size, by simp, by simp, by simp, by simp⟩ (fun k hk => by subst hk; exact ⟨Nat.le_refl _, by simp⟩)
theorem sMakeMap_ok {t : TypeId} (ho : o.op = .makeMap t none) (h : sMakeMap s = some out) : Sound P s o ρ ε H out := by
  cases h
  intro R w hM
  have hm := mem_obj (mem_app hM)
  refine res_ok (v := .map (some w.heap.size)) (w' := w.alloc (.map #[] 0)) ?_ ⟨fun _ => (w.heap.size, undef), by simp [SV.den, eset_at], ?_⟩
  · unfold execOp; rw [ho]
    simp [Instr.makeMap, newObj, go_sem, Sem.run, Result.andThen]
  · simpa only [hden, tden, List.map_cons, List.map_nil, SC.den, List.cons_append, List.nil_append, eset_at, entsDen] using hm
def okTup (c : Bool) (v : SV) (b : Bool) : SV := bif c then .tup [v, .val (.bool b)] else v
def zeroOf (P : Program) (e : TypeId) : Option Value := still P (zeroValue e)
def sLookup (P : Program) (H : Heap) (t : TypeId) (c : Bool) (x y : SV) : Option Out := match x with
  | .map s k => match hget H (s, k) with
    | .obj es _ => match P.underlying t with
      | some (.map kt e) => match plain y with
        | some kv => bif isKey P kt kv && (keysOK P kt es && keyB P kt) then (match zeroOf P e with
            | some z => (match atK P kt kv es with
              | some v => some ⟨okTup c v true, [], [(s, k)], []⟩
              | none => some ⟨okTup c (ofV z) false, [], [(s, k)], []⟩)
            | none => none) else none
        | none => none
      | _ => none
    | _ => none
  | _ => none
theorem okTup_den (c : Bool) (v : SV) (b : Bool) (ε : Env) : (okTup c v b).den ε = if c then .tuple #[v.den ε, .bool b] else v.den ε := by
  cases c <;> simp [okTup, SV.den, SV.dens]
theorem sLookup_ok {t : TypeId} {c : Bool} {x y : Operand} {v u : SV} (ho : o.op = .lookup t x y c) (hx : ρ x = v.den ε) (hy : ρ y = u.den ε) (h : sLookup P H t c v u = some out) : Sound P s o ρ ε H out := by
  unfold sLookup at h
  split at h <;> try (cases h; done)
  rename_i s' k
  split at h <;> try (cases h; done)
  rename_i es clock hg
  split at h <;> try (cases h; done)
  rename_i kt e ht
  split at h <;> try (cases h; done)
  rename_i kv hkv
  cases hck : isKey P kt kv && (keysOK P kt es && keyB P kt) with
  | false => rw [hck] at h; cases h
  | true =>
    rw [hck] at h
    simp only [cond_true] at h
    simp only [Bool.and_eq_true] at hck
    obtain ⟨c1, c2, c3⟩ := hck
    have K := keyB_ok c3
    have hy : ρ y = kv := hy.trans (plain_den ε _ _ hkv)
    have hx : ρ x = .map (some (ε s' k).1) := hx.trans (by simp only [SV.den])
    split at h <;> try (cases h; done)
    rename_i z hz
    have key : ∀ R w, Mem (tden ε H [(s', k)] ++ R) w → (execOp ρ o).run P w = .ok (.value (if c then .tuple #[((atK P kt kv es).map (·.den ε)).getD z, .bool ((atK P kt kv es).map (·.den ε)).isSome] else ((atK P kt kv es).map (·.den ε)).getD z)) w := fun R w hM => by
      simp only [tden, List.map_cons, List.map_nil, hg, List.cons_append, List.nil_append, SC.den] at hM
      have hm := hM.of (c := objM _ _) 0 rfl (φ := MapAt (KV kt K) w (ε s' k).1 (entsDen ε es)) (fun S hS => objM_map K c2 hS)
      have hr := hm.lookup ht (still_run hz) (x := kv) (isKey_at c1) c
      rw [atK_lk K c1 ε c2] at hr
      have hr : (Instr.lookup t (.map (some (ε s' k).1)) kv c).run P w = _ := hr
      unfold execOp; rw [ho]
      simp only [hx, hy]
      simp [hr, go_sem]
    split at h
    · rename_i q hq
      cases h
      refine sound_pure fun R w hM => ?_
      rw [key R w hM, hq, okTup_den]; rfl
    · rename_i hq
      cases h
      refine sound_pure fun R w hM => ?_
      rw [key R w hM, hq, okTup_den, ofV_den]; rfl
def sMapUpdate (P : Program) (H : Heap) (t : TypeId) (x y z : SV) : Option Out := match x with
  | .map s k => match hget H (s, k) with
    | .obj es _ => match P.underlying t with
      | some (.map kt _) => match plain y with
        | some kv => bif isKey P kt kv && (keysOK P kt es && keyB P kt) then some ⟨.val undef, [((s, k), .obj ((kv, z, 0) :: offK P kt kv es) 0)], [], []⟩ else none
        | none => none
      | _ => none
    | _ => none
  | _ => none
theorem sMapUpdate_ok {t : TypeId} {x y z : Operand} {v u q : SV} (ho : o.op = .mapUpdate t x y z ∨ o.op = .insert t x y z) (hx : ρ x = v.den ε) (hy : ρ y = u.den ε) (hz : ρ z = q.den ε) (h : sMapUpdate P H t v u q = some out) : Sound P s o ρ ε H out := by
  unfold sMapUpdate at h
  split at h <;> try (cases h; done)
  rename_i s' k
  split at h <;> try (cases h; done)
  rename_i es clock hg
  split at h <;> try (cases h; done)
  rename_i kt e ht
  split at h <;> try (cases h; done)
  rename_i kv hkv
  cases hck : isKey P kt kv && (keysOK P kt es && keyB P kt) with
  | false => rw [hck] at h; cases h
  | true =>
    rw [hck] at h
    cases h
    simp only [Bool.and_eq_true] at hck
    obtain ⟨c1, c2, c3⟩ := hck
    have K := keyB_ok c3
    have hy : ρ y = kv := hy.trans (plain_den ε _ _ hkv)
    have hx : ρ x = .map (some (ε s' k).1) := hx.trans (by simp only [SV.den])
    intro R w hM
    simp only [tden, Out.touch, names, List.map_cons, List.map_nil, List.append_nil, hg, List.cons_append, List.nil_append, SC.den] at hM
    have hm := hM.of (c := objM _ _) 0 rfl (φ := MapAt (KV kt K) w (ε s' k).1 (entsDen ε es)) (fun S hS => objM_map K c2 hS)
    obtain ⟨w', hr, hm', hg'⟩ := hm.update ht (x := kv) (isKey_at c1) (q.den ε)
    have hr : (Instr.mapUpdate t (.map (some (ε s' k).1)) kv (q.den ε)).run P w = .ok () w' := hr
    have hrun : (execOp ρ o).run P w = .ok .skip w' := by
      unfold execOp
      rcases ho with ho | ho <;> rw [ho] <;> simp only [hx, hy, hz] <;> simp [hr, go_sem]
    rw [hrun]
    refine after_same rfl ?_
    simp only [hden, tden, List.map_cons, List.map_nil, SC.den, List.cons_append, List.nil_append]
    have e1 : entsDen ε ((kv, q, 0) :: offK P kt kv es) = putL (entsDen ε es) kv (q.den ε) := by
      have := offK_put K c1 ε c2
      unfold putL
      rw [← this]; rfl
    rw [e1]
    exact hM.step 0 rfl (c' := objM (ε s' k).1 (putL (entsDen ε es) kv (q.den ε))) (fun S hS hlt => ⟨⟨hg'.os, hg'.tape, hg'.output, hg'.size, fun b hb hnb => hg'.block b hb (fun e => hnb (by cases e; exact hS.1))⟩, fun b => b = (ε s' k).1, map_objM rfl hm', fun b hb => ⟨.inl (by rw [hb]; exact hS.1), by rw [hb]; exact hm'.lt⟩⟩)
end
end Go.Sx
