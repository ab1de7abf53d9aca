/- SX: values and chunks by names, and what they denote. -/
import Derived.Test.YtmhbpifhpolghaaGreatM05dfc8e
namespace Go.Sx
set_option linter.unusedVariables false
set_option linter.unusedSimpArgs false
open Go.RowKit Go.Tk Go.Lib Go.Shelf Go.Vc
abbrev Nm := Nat × Nat
abbrev Env := Nat → Nat → Rv
def eset (ε : Env) (s : Nat) (x : Nat → Rv) : Env := fun t => bif Nat.beq t s then x else ε t
theorem eset_self (ε : Env) (s : Nat) : eset ε s (ε s) = ε := by
  funext t; unfold eset
  cases h : Nat.beq t s with
  | true => rw [Nat.eq_of_beq_eq_true h]; rfl
  | false => rfl
theorem eset_at (ε : Env) (s : Nat) (x : Nat → Rv) : eset ε s x s = x := by unfold eset; rw [Nat.beq_refl]; rfl
theorem eset_ne' {ε : Env} {s t k : Nat} {x : Nat → Rv} (h : t ≠ s) : eset ε s x t k = ε t k := by
  unfold eset
  cases hb : Nat.beq t s with
  | true => exact absurd (Nat.eq_of_beq_eq_true hb) h
  | false => rfl
theorem eset_ne {ε : Env} {s t : Nat} {x : Nat → Rv} (h : t ≠ s) : eset ε s x t = ε t := by
  unfold eset
  cases hb : Nat.beq t s with
  | true => exact absurd (Nat.eq_of_beq_eq_true hb) h
  | false => rfl
inductive SV where
  | val (v : Value)
  | ptr (s k off : Nat)
  | elt (s k p b j : Nat)
  | raw (s k : Nat)
  | map (s k : Nat)
  | any (s k : Nat)
  | win (s k size lo n : Nat)
  | fn (f : Fn) (first cap : List SV)
  | agg (cs : List SV)
  | tup (vs : List SV)
  deriving Inhabited
def adOf : Value → Addr
  | .slice (some a) _ _ => a
  | _ => ⟨0, 0, none⟩
def asSl : Value → Value
  | .slice a l c => .slice a l c
  | _ => .slice none 0 0
def winV (v : Value) (size lo n : Nat) : Value := match v with
  | .slice a _ c => .slice (if c = lo then a else a.map (·.add (lo * size))) n (c - lo)
  | _ => .slice none n 0
mutual
def SV.den (ε : Env) : SV → Value
  | .val v => v
  | .ptr s k off => .pointer (some ⟨(ε s k).1, off, none⟩)
  | .elt s k _ b j => .pointer (some ⟨(adOf (ε s k).2).block, (adOf (ε s k).2).off + (b + j), none⟩)
  | .raw s k => asSl (ε s k).2
  | .map s k => .map (some (ε s k).1)
  | .any s k => (ε s k).2
  | .win s k size lo n => winV (ε s k).2 size lo n
  | .fn f a b => .func f (SV.dens ε a).toArray (SV.dens ε b).toArray
  | .agg cs => .agg (SV.dens ε cs).toArray
  | .tup vs => .tuple (SV.dens ε vs).toArray
def SV.dens (ε : Env) : List SV → List Value
  | [] => []
  | v :: l => v.den ε :: SV.dens ε l
end
mutual
def SV.ok (p : Nat → Nat → Bool) : SV → Bool
  | .val _ => true
  | .ptr s k _ => p s k
  | .elt s k _ _ _ => p s k
  | .raw s k => p s k
  | .map s k => p s k
  | .any s k => p s k
  | .win s k _ _ _ => p s k
  | .fn _ a b => SV.oks p a && SV.oks p b
  | .agg cs => SV.oks p cs
  | .tup vs => SV.oks p vs
def SV.oks (p : Nat → Nat → Bool) : List SV → Bool
  | [] => true
  | v :: l => v.ok p && SV.oks p l
end
def nilNm : Nm := (1000000000, 0)
def isNil (n : Nm) : Bool := Nat.beq n.1 1000000000
theorem isNil_ne {n : Nm} (h : n.1 ≠ 1000000000) : isNil n = false := by
  unfold isNil
  cases hb : Nat.beq n.1 1000000000 with
  | false => rfl
  | true => exact absurd (Nat.eq_of_beq_eq_true hb) h
def gE (ε : Env) (g : Nat → Nat → Nm) : Env := fun s k => bif isNil (g s k) then (0, .slice none 0 0) else ε (g s k).1 (g s k).2
mutual
def SV.ren (g : Nat → Nat → Nm) : SV → SV
  | .val v => .val v
  | .ptr s k off => bif isNil (g s k) then .val (.pointer (some ⟨0, off, none⟩)) else .ptr (g s k).1 (g s k).2 off
  | .elt s k p b j => bif isNil (g s k) then .val (.pointer (some ⟨0, 0 + (b + j), none⟩)) else .elt (g s k).1 (g s k).2 p b j
  | .raw s k => bif isNil (g s k) then .val (.slice none 0 0) else .raw (g s k).1 (g s k).2
  | .map s k => bif isNil (g s k) then .val (.map (some 0)) else .map (g s k).1 (g s k).2
  | .any s k => bif isNil (g s k) then .val (.slice none 0 0) else .any (g s k).1 (g s k).2
  | .win s k size lo n => bif isNil (g s k) then .val (winV (.slice none 0 0) size lo n) else .win (g s k).1 (g s k).2 size lo n
  | .fn f a b => .fn f (SV.rens g a) (SV.rens g b)
  | .agg cs => .agg (SV.rens g cs)
  | .tup vs => .tup (SV.rens g vs)
def SV.rens (g : Nat → Nat → Nm) : List SV → List SV
  | [] => []
  | v :: l => v.ren g :: SV.rens g l
end
theorem dens_map (ε : Env) : ∀ l, SV.dens ε l = l.map (SV.den ε)
  | [] => by simp [SV.dens]
  | v :: l => by simp [SV.dens, dens_map ε l]
theorem dens_length (ε : Env) (l : List SV) : (SV.dens ε l).length = l.length := by rw [dens_map, List.length_map]
theorem dens_append (ε : Env) (l m : List SV) : SV.dens ε (l ++ m) = SV.dens ε l ++ SV.dens ε m := by simp [dens_map]
theorem dens_get (ε : Env) (l : List SV) (i : Nat) : (SV.dens ε l)[i]? = (l[i]?).map (SV.den ε) := by simp [dens_map]
theorem oks_all (p : Nat → Nat → Bool) : ∀ l, SV.oks p l = l.all (SV.ok p)
  | [] => by simp [SV.oks]
  | v :: l => by simp [SV.oks, oks_all p l]
mutual
theorem SV.den_congr {p : Nat → Nat → Bool} {ε ε' : Env} (h : ∀ s k, p s k = true → ε s k = ε' s k) : ∀ v : SV, v.ok p = true → v.den ε = v.den ε'
  | .val v, _ => by simp [SV.den]
  | .ptr s k off, hp => by simp only [SV.ok] at hp; simp [SV.den, h s k hp]
  | .elt s k q b j, hp => by simp only [SV.ok] at hp; simp [SV.den, h s k hp]
  | .raw s k, hp => by simp only [SV.ok] at hp; simp [SV.den, h s k hp]
  | .map s k, hp => by simp only [SV.ok] at hp; simp [SV.den, h s k hp]
  | .any s k, hp => by simp only [SV.ok] at hp; simp [SV.den, h s k hp]
  | .win s k _ _ _, hp => by simp only [SV.ok] at hp; simp [SV.den, h s k hp]
  | .fn f a b, hp => by
    simp only [SV.ok, Bool.and_eq_true] at hp
    simp [SV.den, SV.dens_congr h a hp.1, SV.dens_congr h b hp.2]
  | .agg cs, hp => by simp only [SV.ok] at hp; simp [SV.den, SV.dens_congr h cs hp]
  | .tup cs, hp => by simp only [SV.ok] at hp; simp [SV.den, SV.dens_congr h cs hp]
theorem SV.dens_congr {p : Nat → Nat → Bool} {ε ε' : Env} (h : ∀ s k, p s k = true → ε s k = ε' s k) : ∀ l : List SV, SV.oks p l = true → SV.dens ε l = SV.dens ε' l
  | [], _ => by simp [SV.dens]
  | v :: l, hp => by
    simp only [SV.oks, Bool.and_eq_true] at hp
    simp [SV.dens, SV.den_congr h v hp.1, SV.dens_congr h l hp.2]
end
mutual
theorem SV.ok_mono {p q : Nat → Nat → Bool} (h : ∀ s k, p s k = true → q s k = true) : ∀ v : SV, v.ok p = true → v.ok q = true
  | .val v, _ => by simp [SV.ok]
  | .ptr s k off, hp => by simp only [SV.ok] at hp ⊢; exact h s k hp
  | .elt s k r b j, hp => by simp only [SV.ok] at hp ⊢; exact h s k hp
  | .raw s k, hp => by simp only [SV.ok] at hp ⊢; exact h s k hp
  | .map s k, hp => by simp only [SV.ok] at hp ⊢; exact h s k hp
  | .any s k, hp => by simp only [SV.ok] at hp ⊢; exact h s k hp
  | .win s k _ _ _, hp => by simp only [SV.ok] at hp ⊢; exact h s k hp
  | .fn f a b, hp => by
    simp only [SV.ok, Bool.and_eq_true] at hp ⊢
    exact ⟨SV.oks_mono h a hp.1, SV.oks_mono h b hp.2⟩
  | .agg cs, hp => by simp only [SV.ok] at hp ⊢; exact SV.oks_mono h cs hp
  | .tup cs, hp => by simp only [SV.ok] at hp ⊢; exact SV.oks_mono h cs hp
theorem SV.oks_mono {p q : Nat → Nat → Bool} (h : ∀ s k, p s k = true → q s k = true) : ∀ l : List SV, SV.oks p l = true → SV.oks q l = true
  | [], _ => by simp [SV.oks]
  | v :: l, hp => by
    simp only [SV.oks, Bool.and_eq_true] at hp ⊢
    exact ⟨SV.ok_mono h v hp.1, SV.oks_mono h l hp.2⟩
end
theorem gE_n {ε : Env} {g : Nat → Nat → Nm} {s k : Nat} (h : isNil (g s k) = false) : gE ε g s k = ε (g s k).1 (g s k).2 := by unfold gE; rw [h]; rfl
theorem gE_t {ε : Env} {g : Nat → Nat → Nm} {s k : Nat} (h : isNil (g s k) = true) : gE ε g s k = (0, .slice none 0 0) := by unfold gE; rw [h]; rfl
mutual
theorem SV.den_ren (g : Nat → Nat → Nm) (ε : Env) : ∀ v : SV, (v.ren g).den ε = v.den (gE ε g)
  | .val v => by simp [SV.ren, SV.den]
  | .ptr s k off => by cases h : isNil (g s k) <;> simp [SV.ren, SV.den, h, gE]
  | .elt s k q b j => by cases h : isNil (g s k) <;> simp [SV.ren, SV.den, h, gE, adOf]
  | .raw s k => by cases h : isNil (g s k) <;> simp [SV.ren, SV.den, h, gE, asSl]
  | .map s k => by cases h : isNil (g s k) <;> simp [SV.ren, SV.den, h, gE]
  | .any s k => by cases h : isNil (g s k) <;> simp [SV.ren, SV.den, h, gE]
  | .win s k _ _ _ => by cases h : isNil (g s k) <;> simp [SV.ren, SV.den, h, gE]
  | .fn f a b => by simp [SV.ren, SV.den, SV.dens_ren g ε a, SV.dens_ren g ε b]
  | .agg cs => by simp [SV.ren, SV.den, SV.dens_ren g ε cs]
  | .tup cs => by simp [SV.ren, SV.den, SV.dens_ren g ε cs]
theorem SV.dens_ren (g : Nat → Nat → Nm) (ε : Env) : ∀ l : List SV, SV.dens ε (SV.rens g l) = SV.dens (gE ε g) l
  | [] => by simp [SV.rens, SV.dens]
  | v :: l => by simp [SV.rens, SV.dens, SV.den_ren g ε v, SV.dens_ren g ε l]
end
def andC (c : Chunk) (p : Prop) : Chunk where
  at_ S w := c.at_ S w ∧ p
  stable hk hi h := ⟨c.stable hk hi h.1, h.2⟩
def objM (b : Nat) (L : List (Value × Value)) : Chunk where
  at_ S w := S b ∧ ∃ es clock, w.heap[b]? = some (.map es clock) ∧ (es.toList.map fun e => (e.key, e.val)).Perm L ∧ (L.map (·.1)).Nodup ∧ (es.toList.map (·.born)).Nodup ∧ ∀ e ∈ es.toList, e.born < clock
  stable hk hi h := ⟨h.1, by rw [hk.block b h.1 (hi b h.1)]; exact h.2⟩
inductive SL where
  | deep (l : List SV)
  | shal (l : List Value)
  deriving Inhabited
def SL.den (ε : Env) : SL → List Value
  | .deep l => SV.dens ε l
  | .shal l => l
def SL.ok (p : Nat → Nat → Bool) : SL → Bool
  | .deep l => SV.oks p l
  | .shal _ => true
def SL.ren (g : Nat → Nat → Nm) : SL → SL
  | .deep l => .deep (SV.rens g l)
  | .shal l => .shal l
theorem SL.den_congr {p : Nat → Nat → Bool} {ε ε' : Env} (h : ∀ s k, p s k = true → ε s k = ε' s k) (l : SL) (hp : l.ok p = true) : l.den ε = l.den ε' := by
  cases l with
  | deep l => exact SV.dens_congr h l hp
  | shal l => rfl
theorem SL.ok_mono {p q : Nat → Nat → Bool} (h : ∀ s k, p s k = true → q s k = true) (l : SL) (hp : l.ok p = true) : l.ok q = true := by
  cases l with
  | deep l => exact SV.oks_mono h l hp
  | shal l => rfl
theorem SL.den_ren (g : Nat → Nat → Nm) (ε : Env) (l : SL) : (l.ren g).den ε = l.den (gE ε g) := by
  cases l with
  | deep l => exact SV.dens_ren g ε l
  | shal l => rfl
inductive SC where
  | emp
  | box (q : Option TypeId) (cs : List SV)
  | row (E size n : Nat) (xs : SL) (ws : List (Nat × Nat × List SV))
  | obj (es : List (Value × SV × Nat)) (clock : Nat)
  | fam (f : Nat → Value → Chunk)
  | famE (vs : List SV) (f : Nat → Value → List Value → Chunk)
  deriving Inhabited
def entsDen (ε : Env) (es : List (Value × SV × Nat)) : List (Value × Value) := es.map fun e => (e.1, e.2.1.den ε)
def winOK (xs : List Value) (b : Nat) (cs : List Value) : Prop := (xs.drop b).take cs.length = cs
def SC.den (ε : Env) (s k : Nat) : SC → Chunk
  | .emp => pureC True
  | .box q cs => boxE q (ε s k).1 (SV.dens ε cs).toArray
  | .row E size n xs [] => rowC E size (asSl (ε s k).2) n (xs.den ε)
  | .row E size n xs (x :: ws) => andC (rowC E size (asSl (ε s k).2) n (xs.den ε)) (∀ y ∈ x :: ws, winOK (xs.den ε) y.2.1 (SV.dens ε y.2.2))
  | .obj es _ => objM (ε s k).1 (entsDen ε es)
  | .fam f => f (ε s k).1 (ε s k).2
  | .famE vs f => f (ε s k).1 (ε s k).2 (SV.dens ε vs)
def SC.ok (p : Nat → Nat → Bool) : SC → Bool
  | .emp => true
  | .box _ cs => SV.oks p cs
  | .row _ _ _ xs ws => xs.ok p && ws.all fun y => SV.oks p y.2.2
  | .obj es _ => es.all fun e => e.2.1.ok p
  | .fam _ => true
  | .famE vs _ => SV.oks p vs
def SC.ren (g : Nat → Nat → Nm) : SC → SC
  | .emp => .emp
  | .box q cs => .box q (SV.rens g cs)
  | .row E size n xs ws => .row E size n (xs.ren g) (ws.map fun y => (y.1, y.2.1, SV.rens g y.2.2))
  | .obj es clock => .obj (es.map fun e => (e.1, e.2.1.ren g, e.2.2)) clock
  | .fam f => .fam f
  | .famE vs f => .famE (SV.rens g vs) f
theorem ents_congr {p : Nat → Nat → Bool} {ε ε' : Env} (h : ∀ s k, p s k = true → ε s k = ε' s k) {es : List (Value × SV × Nat)} (hp : (es.all fun e => e.2.1.ok p) = true) : entsDen ε es = entsDen ε' es :=
  List.map_congr_left fun e he => by rw [SV.den_congr h _ (List.all_eq_true.1 hp e he)]
theorem SC.den_congr {p : Nat → Nat → Bool} {ε ε' : Env} (h : ∀ s k, p s k = true → ε s k = ε' s k) (s k : Nat) (hs : p s k = true) (c : SC) (hp : c.ok p = true) : c.den ε s k = c.den ε' s k := by
  cases c with
  | emp => rfl
  | box q cs => simp only [SC.den, h s k hs, SV.dens_congr h cs hp]
  | row E size n xs ws =>
    simp only [SC.ok, Bool.and_eq_true] at hp
    cases ws with
    | nil => simp only [SC.den, h s k hs, SL.den_congr h xs hp.1]
    | cons y ws =>
      simp only [SC.den, h s k hs, SL.den_congr h xs hp.1]
      congr 1
      refine propext ⟨fun q z hz => ?_, fun q z hz => ?_⟩
      · rw [← SV.dens_congr h _ (List.all_eq_true.1 hp.2 z hz)]; exact q z hz
      · rw [SV.dens_congr h _ (List.all_eq_true.1 hp.2 z hz)]; exact q z hz
  | obj es clock => simp only [SC.den, h s k hs, ents_congr h hp]
  | fam f => simp only [SC.den, h s k hs]
  | famE vs f => simp only [SC.den, h s k hs, SV.dens_congr h vs hp]
theorem SC.ok_mono {p q : Nat → Nat → Bool} (h : ∀ s k, p s k = true → q s k = true) (c : SC) (hp : c.ok p = true) : c.ok q = true := by
  cases c with
  | emp => rfl
  | box r cs => exact SV.oks_mono h cs hp
  | row E size n xs ws =>
    simp only [SC.ok, Bool.and_eq_true] at hp ⊢
    exact ⟨SL.ok_mono h xs hp.1, List.all_eq_true.2 fun y hy => SV.oks_mono h _ (List.all_eq_true.1 hp.2 y hy)⟩
  | obj es clock => exact List.all_eq_true.2 fun e he => SV.ok_mono h _ (List.all_eq_true.1 hp e he)
  | fam f => rfl
  | famE vs f => exact SV.oks_mono h vs hp
theorem SC.den_ren (g : Nat → Nat → Nm) (ε : Env) (s k : Nat) (hn : isNil (g s k) = false) (c : SC) : (c.ren g).den ε (g s k).1 (g s k).2 = c.den (gE ε g) s k := by
  cases c with
  | emp => rfl
  | box q cs => simp only [SC.ren, SC.den, SV.dens_ren, gE_n hn]
  | row E size n xs ws =>
    cases ws with
    | nil => simp only [SC.ren, List.map_nil, SC.den, SL.den_ren, gE_n hn]
    | cons y ws =>
      simp only [SC.ren, List.map_cons, SC.den, SL.den_ren, SV.dens_ren, gE_n hn]
      congr 1
      refine propext ⟨fun q z hz => ?_, fun q z hz => ?_⟩
      · have := q (z.1, z.2.1, SV.rens g z.2.2) (by rw [← List.map_cons (f := fun y : Nat × Nat × List SV => (y.1, y.2.1, SV.rens g y.2.2))]; exact List.mem_map_of_mem hz)
        simpa only [SV.dens_ren] using this
      · rw [← List.map_cons (f := fun y : Nat × Nat × List SV => (y.1, y.2.1, SV.rens g y.2.2))] at hz
        obtain ⟨z', hz', rfl⟩ := List.mem_map.1 hz
        simpa only [SV.dens_ren] using q z' hz'
  | obj es clock =>
    have h : entsDen ε (es.map fun e => (e.1, e.2.1.ren g, e.2.2)) = entsDen (gE ε g) es := by
      unfold entsDen
      rw [List.map_map]
      refine List.map_congr_left fun e he => ?_
      simp only [Function.comp, SV.den_ren]
    simp only [SC.ren, SC.den, h, gE_n hn]
  | fam f => simp only [SC.ren, SC.den, gE_n hn]
  | famE vs f => simp only [SC.ren, SC.den, SV.dens_ren, gE_n hn]
abbrev Heap := List (Nm × SC)
def nmB (a b : Nm) : Bool := Nat.beq a.1 b.1 && Nat.beq a.2 b.2
theorem nmB_iff {a b : Nm} : nmB a b = true ↔ a = b := by
  unfold nmB
  rw [Bool.and_eq_true]
  constructor
  · rintro ⟨h1, h2⟩; exact Prod.ext (Nat.eq_of_beq_eq_true h1) (Nat.eq_of_beq_eq_true h2)
  · rintro rfl; exact ⟨Nat.beq_refl _, Nat.beq_refl _⟩
theorem nmB_ne {a b : Nm} (h : a ≠ b) : nmB a b = false := by
  cases hb : nmB a b with
  | false => rfl
  | true => exact absurd (nmB_iff.1 hb) h
theorem nmB_self (a : Nm) : nmB a a = true := nmB_iff.2 rfl
def hget : Heap → Nm → SC
  | [], _ => .emp
  | (m, c) :: l, n => bif nmB m n then c else hget l n
def hdel : Heap → Nm → Heap
  | [], _ => []
  | (m, c) :: l, n => bif nmB m n then hdel l n else (m, c) :: hdel l n
def hdels (H : Heap) : List Nm → Heap
  | [] => H
  | n :: l => hdels (hdel H n) l
def names (H : Heap) : List Nm := H.map (·.1)
def hput (H upd : Heap) : Heap := upd ++ hdels H (names upd)
def hden (ε : Env) (H : Heap) : List Chunk := H.map fun e => e.2.den ε e.1.1 e.1.2
def tden (ε : Env) (H : Heap) (T : List Nm) : List Chunk := T.map fun n => (hget H n).den ε n.1 n.2
def hok (p : Nat → Nat → Bool) (H : Heap) : Bool := H.all fun e => p e.1.1 e.1.2 && e.2.ok p
theorem hdel_names {H : Heap} {n m : Nm} : m ∈ names (hdel H n) ↔ m ∈ names H ∧ m ≠ n := by
  induction H with
  | nil => simp [hdel, names]
  | cons e l ih =>
    obtain ⟨a, c⟩ := e
    unfold hdel
    cases hb : nmB a n with
    | true =>
      have := nmB_iff.1 hb
      subst this
      show m ∈ names (hdel l a) ↔ m ∈ a :: names l ∧ m ≠ a
      rw [ih, List.mem_cons]
      constructor
      · rintro ⟨h1, h2⟩; exact ⟨.inr h1, h2⟩
      · rintro ⟨h1 | h1, h2⟩
        · exact absurd h1 h2
        · exact ⟨h1, h2⟩
    | false =>
      have hne : a ≠ n := fun h => by rw [nmB_iff.2 h] at hb; cases hb
      simp only [cond_false, names, List.map_cons, List.mem_cons] at ih ⊢
      rw [ih]
      constructor
      · rintro (h1 | ⟨h1, h2⟩)
        · subst h1; exact ⟨.inl rfl, hne⟩
        · exact ⟨.inr h1, h2⟩
      · rintro ⟨h1 | h1, h2⟩
        · exact .inl h1
        · exact .inr ⟨h1, h2⟩
theorem hdel_mem {H : Heap} {n : Nm} {e : Nm × SC} (h : e ∈ hdel H n) : e ∈ H := by
  induction H with
  | nil => exact h
  | cons x l ih =>
    obtain ⟨a, c⟩ := x
    unfold hdel at h
    cases hb : nmB a n with
    | true => rw [hb] at h; exact List.mem_cons_of_mem _ (ih h)
    | false =>
      rw [hb] at h
      rcases List.mem_cons.1 h with h | h
      · rw [h]; exact List.mem_cons_self
      · exact List.mem_cons_of_mem _ (ih h)
theorem hdel_nodup {H : Heap} {n : Nm} (h : (names H).Nodup) : (names (hdel H n)).Nodup := by
  induction H with
  | nil => exact h
  | cons x l ih =>
    obtain ⟨a, c⟩ := x
    have h : a ∉ names l ∧ (names l).Nodup := by simpa [names] using h
    unfold hdel
    cases hb : nmB a n with
    | true => exact ih h.2
    | false =>
      show (a :: names (hdel l n)).Nodup
      rw [List.nodup_cons]
      exact ⟨fun hm => h.1 (hdel_names.1 hm).1, ih h.2⟩
theorem hget_none {H : Heap} {n : Nm} (h : n ∉ names H) : hget H n = .emp := by
  induction H with
  | nil => rfl
  | cons x l ih =>
    obtain ⟨a, c⟩ := x
    have h : ¬ (n = a ∨ n ∈ names l) := by simpa [names] using h
    unfold hget
    rw [nmB_ne (fun e => h (.inl e.symm))]
    exact ih (fun e => h (.inr e))
theorem hget_mem {H : Heap} {n : Nm} (hn : (names H).Nodup) {c : SC} (h : (n, c) ∈ H) : hget H n = c := by
  induction H with
  | nil => cases h
  | cons x l ih =>
    obtain ⟨a, d⟩ := x
    have hn : a ∉ names l ∧ (names l).Nodup := by simpa [names] using hn
    unfold hget
    rcases List.mem_cons.1 h with h | h
    · cases h; rw [nmB_self]; rfl
    · have : a ≠ n := fun e => hn.1 (by rw [e]; exact List.mem_map_of_mem (f := (·.1)) h)
      rw [nmB_ne this]; exact ih hn.2 h
theorem hget_of {H : Heap} {n : Nm} (h : n ∈ names H) : (n, hget H n) ∈ H := by
  induction H with
  | nil => cases h
  | cons x l ih =>
    obtain ⟨a, d⟩ := x
    unfold hget
    cases hb : nmB a n with
    | true => rw [nmB_iff.1 hb]; exact List.mem_cons_self
    | false =>
      have : a ≠ n := fun e => by rw [nmB_iff.2 e] at hb; cases hb
      have h : n = a ∨ n ∈ names l := by simpa [names] using h
      rcases h with h | h
      · exact absurd h.symm this
      · exact List.mem_cons_of_mem _ (ih h)
theorem hget_del {H : Heap} {n m : Nm} (h : m ≠ n) : hget (hdel H n) m = hget H m := by
  induction H with
  | nil => rfl
  | cons x l ih =>
    obtain ⟨a, d⟩ := x
    unfold hdel
    cases hb : nmB a n with
    | true =>
      have := nmB_iff.1 hb
      subst this
      show hget (hdel l a) m = hget ((a, d) :: l) m
      rw [ih]
      show _ = bif nmB a m then d else hget l m
      rw [nmB_ne (fun e => h e.symm)]; rfl
    | false =>
      show (bif nmB a m then d else hget (hdel l n) m) = (bif nmB a m then d else hget l m)
      rw [ih]
theorem hdels_names {T : List Nm} : ∀ {H : Heap} {m : Nm}, m ∈ names (hdels H T) ↔ m ∈ names H ∧ m ∉ T := by
  induction T with
  | nil => intro H m; simp [hdels]
  | cons n T ih =>
    intro H m
    show m ∈ names (hdels (hdel H n) T) ↔ _
    rw [ih, hdel_names]
    simp only [List.mem_cons, not_or]
    constructor
    · rintro ⟨⟨h1, h2⟩, h3⟩; exact ⟨h1, h2, h3⟩
    · rintro ⟨h1, h2, h3⟩; exact ⟨⟨h1, h2⟩, h3⟩
theorem hdels_nodup {T : List Nm} : ∀ {H : Heap}, (names H).Nodup → (names (hdels H T)).Nodup := by
  induction T with
  | nil => exact fun h => h
  | cons n T ih => exact fun h => ih (hdel_nodup h)
theorem hdels_mem {T : List Nm} : ∀ {H : Heap} {e : Nm × SC}, e ∈ hdels H T → e ∈ H := by
  induction T with
  | nil => exact fun h => h
  | cons n T ih => exact fun h => hdel_mem (ih h)
theorem hget_dels {T : List Nm} : ∀ {H : Heap} {m : Nm}, m ∉ T → hget (hdels H T) m = hget H m := by
  induction T with
  | nil => intros; rfl
  | cons n T ih =>
    intro H m h
    rw [List.mem_cons, not_or] at h
    show hget (hdels (hdel H n) T) m = _
    rw [ih h.2, hget_del h.1]
theorem hdels_append (A B : List Nm) : ∀ H, hdels H (A ++ B) = hdels (hdels H A) B := by
  induction A with
  | nil => intro H; rfl
  | cons n A ih => intro H; exact ih _
theorem tden_congr {ε : Env} {H H' : Heap} {T : List Nm} (h : ∀ n ∈ T, hget H n = hget H' n) : tden ε H T = tden ε H' T :=
  List.map_congr_left fun n hn => by rw [h n hn]
theorem hden_tden {ε : Env} {H : Heap} (hn : (names H).Nodup) : hden ε H = tden ε H (names H) := by
  unfold hden tden names
  rw [List.map_map]
  exact List.map_congr_left fun e he => by show _ = (hget H e.1).den ε e.1.1 e.1.2; rw [hget_mem hn he]
theorem perm_map {α : Type} {l1 l2 : List α} (h : l1.Perm l2) : ∃ g : Nat → Nat, (∀ j, j < l2.length → g j < l1.length ∧ l2[j]? = l1[g j]?) ∧ ∀ i j, i < l2.length → j < l2.length → i ≠ j → g i ≠ g j := by
  induction h with
  | nil => exact ⟨id, fun j h => by simp at h, fun i j h => by simp at h⟩
  | @cons x l1 l2 h ih =>
    obtain ⟨g, g1, g2⟩ := ih
    refine ⟨fun j => match j with | 0 => 0 | j + 1 => g j + 1, fun j hj => ?_, fun i j hi hj hij => ?_⟩
    · cases j with
      | zero => exact ⟨by simp, rfl⟩
      | succ j =>
        have := g1 j (by simpa using hj)
        exact ⟨by simpa using this.1, by simpa using this.2⟩
    · cases i with
      | zero => cases j with
        | zero => exact absurd rfl hij
        | succ j => simp
      | succ i => cases j with
        | zero => simp
        | succ j => have := g2 i j (by simpa using hi) (by simpa using hj) (fun e => hij (by rw [e])); simpa using this
  | swap x y l =>
    refine ⟨fun j => match j with | 0 => 1 | 1 => 0 | j + 2 => j + 2, fun j hj => ?_, fun i j hi hj hij => ?_⟩
    · match j with
      | 0 => exact ⟨by simp, rfl⟩
      | 1 => exact ⟨by simp, rfl⟩
      | j + 2 => exact ⟨by simpa using hj, rfl⟩
    · match i, j with
      | 0, 0 => exact absurd rfl hij
      | 0, 1 => simp
      | 0, j + 2 => simp
      | 1, 0 => simp
      | 1, 1 => exact absurd rfl hij
      | 1, j + 2 => simp
      | i + 2, 0 => simp
      | i + 2, 1 => simp
      | i + 2, j + 2 => simpa using hij
  | trans h1 h2 ih1 ih2 =>
    obtain ⟨f, f1, f2⟩ := ih1
    obtain ⟨g, g1, g2⟩ := ih2
    exact ⟨fun j => f (g j), fun j hj => ⟨(f1 _ (g1 j hj).1).1, (g1 j hj).2.trans (f1 _ (g1 j hj).1).2⟩, fun i j hi hj hij => f2 _ _ (g1 i hi).1 (g1 j hj).1 (g2 i j hi hj hij)⟩
theorem mem_perm {l1 l2 : List Chunk} {w : World} (hp : l1.Perm l2) (h : Mem l1 w) : Mem l2 w := by
  obtain ⟨F, h⟩ := h
  obtain ⟨g, g1, g2⟩ := perm_map hp
  refine ⟨fun j => F (g j), fun j c hc => ?_, fun j k hj hk => h.hi _ k (g1 j hj).1 hk, fun i j k hi hj hij hk => h.apart _ _ k (g1 i hi).1 (g1 j hj).1 (g2 i j hi hj hij) hk⟩
  have hj := (List.getElem?_eq_some_iff.1 hc).1
  exact h.has _ c (by rw [← (g1 j hj).2]; exact hc)
theorem mem_app {A R : List Chunk} {w : World} (h : Mem (A ++ R) w) : Mem R w := by
  induction A with
  | nil => exact h
  | cons c A ih => exact ih h.tail
theorem hdel_none {H : Heap} {n : Nm} (h : n ∉ names H) : hdel H n = H := by
  induction H with
  | nil => rfl
  | cons y l ih =>
    obtain ⟨b, e⟩ := y
    have h2 : ¬ (n = b ∨ n ∈ names l) := by simpa [names] using h
    unfold hdel
    rw [nmB_ne (fun e => h2 (.inl e.symm))]
    show (b, e) :: hdel l n = _
    rw [ih (fun e => h2 (.inr e))]
theorem perm_del {H : Heap} {n : Nm} (hn : (names H).Nodup) (h : n ∈ names H) : H.Perm ((n, hget H n) :: hdel H n) := by
  induction H with
  | nil => cases h
  | cons x l ih =>
    obtain ⟨a, d⟩ := x
    have hn : a ∉ names l ∧ (names l).Nodup := by simpa [names] using hn
    unfold hget hdel
    cases hb : nmB a n with
    | true =>
      have := nmB_iff.1 hb
      subst this
      have : hdel l a = l := by
        have h2 := hn.1
        exact hdel_none h2
      simp only [cond_true, this]
      exact List.Perm.refl _
    | false =>
      have hne : a ≠ n := fun e => by rw [nmB_iff.2 e] at hb; cases hb
      have h : n = a ∨ n ∈ names l := by simpa [names] using h
      have h := h.resolve_left (fun e => hne e.symm)
      exact (List.Perm.cons _ (ih hn.2 h)).trans (List.Perm.swap _ _ _)
theorem focus1 {ε : Env} {H : Heap} {n : Nm} {R : List Chunk} {w : World} (hn : (names H).Nodup) : Mem (hden ε H ++ R) w ↔ Mem ((hget H n).den ε n.1 n.2 :: (hden ε (hdel H n) ++ R)) w := by
  by_cases h : n ∈ names H
  · have hp : (hden ε H).Perm ((hget H n).den ε n.1 n.2 :: hden ε (hdel H n)) := List.Perm.map (fun e : Nm × SC => e.2.den ε e.1.1 e.1.2) (perm_del hn h)
    exact ⟨mem_perm (hp.append_right R), mem_perm (hp.symm.append_right R)⟩
  · rw [hget_none h, hdel_none h]
    exact ⟨fun hm => Mem.in_pure trivial hm, fun hm => hm.tail⟩
theorem focus {ε : Env} {w : World} {T : List Nm} (ht : T.Nodup) : ∀ {H : Heap} {R : List Chunk}, (names H).Nodup → (Mem (hden ε H ++ R) w ↔ Mem (tden ε H T ++ (hden ε (hdels H T) ++ R)) w) := by
  induction T with
  | nil => intros; exact Iff.rfl
  | cons n T ih =>
    intro H R hn
    rw [List.nodup_cons] at ht
    have e : tden ε (hdel H n) T = tden ε H T := tden_congr fun m hm => hget_del fun e => ht.1 (e ▸ hm)
    have p1 : ((hget H n).den ε n.1 n.2 :: (hden ε (hdel H n) ++ R)).Perm (hden ε (hdel H n) ++ ((hget H n).den ε n.1 n.2 :: R)) := List.perm_middle.symm
    have p2 : (tden ε H T ++ (hden ε (hdels (hdel H n) T) ++ ((hget H n).den ε n.1 n.2 :: R))).Perm (tden ε H (n :: T) ++ (hden ε (hdels H (n :: T)) ++ R)) := by
      show (tden ε H T ++ (hden ε (hdels (hdel H n) T) ++ ((hget H n).den ε n.1 n.2 :: R))).Perm ((hget H n).den ε n.1 n.2 :: (tden ε H T ++ (hden ε (hdels (hdel H n) T) ++ R)))
      rw [← List.append_assoc, ← List.append_assoc]
      exact List.perm_middle
    rw [focus1 (n := n) hn]
    constructor
    · intro h
      have h1 := (ih ht.2 (hdel_nodup hn)).1 (mem_perm p1 h)
      rw [e] at h1
      exact mem_perm p2 h1
    · intro h
      have h1 := mem_perm p2.symm h
      rw [← e] at h1
      exact mem_perm p1.symm ((ih ht.2 (hdel_nodup hn)).2 h1)
theorem mem_ext {ε : Env} {w : World} {H H' : Heap} {R : List Chunk} (hn : (names H).Nodup) (hn' : (names H').Nodup) (he : ∀ n ∈ names H', hget H n = hget H' n) (h : Mem (hden ε H ++ R) w) : Mem (hden ε H' ++ R) w := by
  have h1 := (focus hn' hn).1 h
  rw [tden_congr (H' := H') he, ← hden_tden hn'] at h1
  have p : (hden ε H' ++ (hden ε (hdels H (names H')) ++ R)).Perm (hden ε (hdels H (names H')) ++ (hden ε H' ++ R)) := by
    rw [← List.append_assoc, ← List.append_assoc]
    exact List.Perm.append_right R List.perm_append_comm
  exact mem_app (mem_perm p h1)
theorem hput_nodup {H U : Heap} (hn : (names H).Nodup) (hu : (names U).Nodup) : (names (hput H U)).Nodup := by
  unfold hput names
  rw [List.map_append]
  refine List.nodup_append.2 ⟨hu, hdels_nodup hn, fun a ha b hb e => ?_⟩
  subst e
  exact (hdels_names.1 hb).2 ha
theorem hget_append {A B : Heap} {n : Nm} : hget (A ++ B) n = if n ∈ names A then hget A n else hget B n := by
  induction A with
  | nil => simp [names]
  | cons x l ih =>
    obtain ⟨a, d⟩ := x
    show (bif nmB a n then d else hget (l ++ B) n) = _
    cases hb : nmB a n with
    | true =>
      have := nmB_iff.1 hb
      subst this
      rw [if_pos (by simp [names])]
      show d = bif nmB a a then d else _
      rw [nmB_self]; rfl
    | false =>
      have hne : n ≠ a := fun e => by rw [nmB_iff.2 e.symm] at hb; cases hb
      show hget (l ++ B) n = _
      rw [ih]
      by_cases h : n ∈ names l
      · rw [if_pos h, if_pos (show n ∈ names ((a, d) :: l) from List.mem_cons_of_mem a h)]
        show _ = bif nmB a n then d else _
        rw [hb]; rfl
      · rw [if_neg h, if_neg (show ¬ n ∈ names ((a, d) :: l) from fun e => (List.mem_cons.1 e).elim hne h)]
theorem hget_put {H U : Heap} {n : Nm} : hget (hput H U) n = if n ∈ names U then hget U n else hget H n := by
  unfold hput
  rw [hget_append]
  by_cases h : n ∈ names U
  · rw [if_pos h, if_pos h]
  · rw [if_neg h, if_neg h, hget_dels h]
theorem unfocus {ε : Env} {w : World} {H U : Heap} {rd : List Nm} {R : List Chunk} (hn : (names H).Nodup) (ht : (names U ++ rd).Nodup) (h : Mem (hden ε U ++ (tden ε H rd ++ (hden ε (hdels H (names U ++ rd)) ++ R))) w) : Mem (hden ε (hput H U) ++ R) w := by
  have hd := List.nodup_append.1 ht
  have e : tden ε (hdels H (names U)) rd = tden ε H rd := tden_congr fun m hm => hget_dels fun h => hd.2.2 m h m hm rfl
  rw [hdels_append, ← e] at h
  have p1 : (hden ε U ++ (tden ε (hdels H (names U)) rd ++ (hden ε (hdels (hdels H (names U)) rd) ++ R))).Perm (tden ε (hdels H (names U)) rd ++ (hden ε (hdels (hdels H (names U)) rd) ++ (hden ε U ++ R))) := by
    generalize tden ε (hdels H (names U)) rd = A
    generalize hden ε (hdels (hdels H (names U)) rd) = B
    generalize hden ε U = C
    have : (C ++ (A ++ (B ++ R))).Perm ((A ++ (B ++ R)) ++ C) := List.perm_append_comm
    refine this.trans ?_
    simp only [List.append_assoc]
    refine List.Perm.append_left A (List.Perm.append_left B ?_)
    exact List.perm_append_comm
  have h1 := (focus hd.2.1 (hdels_nodup (T := names U) hn)).2 (mem_perm p1 h)
  have p2 : (hden ε (hdels H (names U)) ++ (hden ε U ++ R)).Perm (hden ε (hput H U) ++ R) := by
    unfold hput hden
    rw [List.map_append, ← List.append_assoc]
    exact List.Perm.append_right R List.perm_append_comm
  exact mem_perm p2 h1
theorem hden_congr {p : Nat → Nat → Bool} {ε ε' : Env} (h : ∀ s k, p s k = true → ε s k = ε' s k) {H : Heap} (hp : hok p H = true) : hden ε H = hden ε' H :=
  List.map_congr_left fun e he => by
    have := List.all_eq_true.1 hp e he
    rw [Bool.and_eq_true] at this
    exact SC.den_congr h _ _ this.1 _ this.2
theorem hok_mono {p q : Nat → Nat → Bool} (h : ∀ s k, p s k = true → q s k = true) {H : Heap} (hp : hok p H = true) : hok q H = true :=
  List.all_eq_true.2 fun e he => by
    have := List.all_eq_true.1 hp e he
    rw [Bool.and_eq_true] at this ⊢
    exact ⟨h _ _ this.1, SC.ok_mono h _ this.2⟩
theorem hok_dels {p : Nat → Nat → Bool} {H : Heap} {T : List Nm} (hp : hok p H = true) : hok p (hdels H T) = true :=
  List.all_eq_true.2 fun e he => List.all_eq_true.1 hp e (hdels_mem he)
theorem hok_put {p : Nat → Nat → Bool} {H U : Heap} (hp : hok p H = true) (hu : hok p U = true) : hok p (hput H U) = true := by
  unfold hput hok
  rw [List.all_append, Bool.and_eq_true]
  exact ⟨hu, hok_dels hp⟩
theorem hok_get {p : Nat → Nat → Bool} {H : Heap} (hp : hok p H = true) {n : Nm} (hn : n ∈ names H) : p n.1 n.2 = true ∧ (hget H n).ok p = true := by
  have := List.all_eq_true.1 hp _ (hget_of hn)
  rwa [Bool.and_eq_true] at this
end Go.Sx
