/- PostPlain, BoxLoad. -/
import Derived.Test.YtfnneghddndeiaaM611e1d5
import Derived.Test.YtfnneghddndeiaaRowS
import Derived.Shelf.SlicesQ.Load
import Derived.Test.YtfnneghddndeiaaRows
set_option maxRecDepth 100000
set_option linter.unusedVariables false
set_option linter.unusedSimpArgs false
set_option linter.unusedSectionVars false
section
namespace Go.Proofs.Ytfnneghddndeiaa
open Go.RowKit Go.Lib Go.Tk
structure Msg where
  k : Int
  tc : Int
  tr : Int
  ix : Int
  lc : Int
  lf : Int
  lx : Int
  v : Int
  st : Int
  nn : Int
  amt : Int
  cd : Int
deriving DecidableEq, Inhabited
def encMsg (m : Msg) : List Value := [.int .u8 m.k, .int .u8 m.tc, .int .u64 m.tr, .int .u8 m.ix, .int .u8 m.lc, .int .u16 m.lf, .int .u32 m.lx, .int .i64 m.v, .int .u8 m.st, .int .u32 m.nn, .int .i64 m.amt, .int .i64 m.cd]
def msgAgg (m : Msg) : Value := .agg #[.int .u8 m.k, .int .u8 m.tc, .int .u64 m.tr, .int .u8 m.ix, .int .u8 m.lc, .int .u16 m.lf, .int .u32 m.lx, .int .i64 m.v, .int .u8 m.st, .int .u32 m.nn, .int .i64 m.amt, .int .i64 m.cd]
theorem encMsg_len (m : Msg) : (encMsg m).length = 12 := rfl
theorem encMsg_one (m : Msg) : ∀ v ∈ encMsg m, v.oneCell' = true := by simp [encMsg, Value.oneCell']
structure BoxV where
  wait : List Msg
  given : Int
  last : Int
structure PostV where
  self : Int
  n : Int
  box : Nat → BoxV
def PostV.other (P : PostV) (c : Int) : Bool := decide (0 ≤ c) && decide (c < P.n) && !decide (c = P.self)
def PostV.put (P : PostV) (c : Nat) (X : BoxV) : PostV := { P with box := fun i => if i = c then X else P.box i }
def PostV.cs (P : PostV) : List Nat := (List.range P.n.toNat).filter fun c => P.other c
structure BoxOk (X : BoxV) : Prop where
  len : X.wait.length ≤ 32
  le : (X.wait.length : Int) ≤ X.given
  hi : X.given ≤ 4294967296
  l0 : 0 ≤ X.last
  l1 : X.last ≤ 18446744073709551615
structure PostOk (P : PostV) : Prop where
  n0 : 2 ≤ P.n
  n1 : P.n ≤ 8
  s0 : 0 ≤ P.self
  s1 : P.self < P.n
  box : ∀ c, BoxOk (P.box c)
def newE (self n : Int) : Int := if n < 2 ∨ 8 < n ∨ n ≤ self then 1 else 0
def newP (self n : Int) : PostV := ⟨self, n, fun _ => ⟨[], 0, 0⟩⟩
def pushX (X : BoxV) (m : Msg) : Int × BoxV := if 32 ≤ X.wait.length then (3, X) else (0, ⟨X.wait ++ [m], X.given + 1, X.last⟩)
def doneX (X : BoxV) : Int := X.given - X.wait.length
def ackX (X : BoxV) (number : Int) : Int × BoxV :=
  if X.given < number then (1, X) else if number ≤ doneX X then (6, X) else (0, ⟨X.wait.drop (number - doneX X).toNat, X.given, X.last⟩)
def tookX (X : BoxV) (number : Int) : Int × BoxV := if number = 0 ∨ number - 1 ≠ X.last then (6, X) else (0, ⟨X.wait, X.given, number⟩)
def doP (f : BoxV → Int × BoxV) (P : PostV) (c : Int) : Int × PostV := if P.other c then ((f (P.box c.toNat)).1, P.put c.toNat (f (P.box c.toNat)).2) else (1, P)
theorem PostV.put_same {P : PostV} {c : Nat} : P.put c (P.box c) = P := by
  unfold PostV.put
  cases P
  simp only [PostV.mk.injEq, true_and]
  funext i
  split
  · rename_i h; rw [h]
  · rfl
theorem mem_cs {P : PostV} {c : Nat} : c ∈ P.cs ↔ P.other c = true := by
  unfold PostV.cs
  rw [List.mem_filter, List.mem_range]
  constructor
  · exact fun h => h.2
  · intro h
    refine ⟨?_, h⟩
    simp only [PostV.other, Bool.and_eq_true, decide_eq_true_eq] at h
    omega
theorem cs_nodup (P : PostV) : P.cs.Nodup := List.nodup_range.sublist List.filter_sublist
theorem pushX_ok {X : BoxV} {m : Msg} (h : BoxOk X) (hg : X.given < 4294967296) : BoxOk (pushX X m).2 := by
  unfold pushX
  split
  · exact h
  · have := h.len; have := h.le
    exact ⟨by simp; omega, by simp; omega, by show X.given + 1 ≤ _; omega, h.l0, h.l1⟩
theorem ackX_ok {X : BoxV} {k : Int} (h : BoxOk X) : BoxOk (ackX X k).2 := by
  unfold ackX
  split
  · exact h
  · split
    · exact h
    · have := h.len; have := h.le
      exact ⟨by simp; omega, by simp; omega, h.hi, h.l0, h.l1⟩
theorem tookX_ok {X : BoxV} {k : Int} (h : BoxOk X) (h0 : 0 ≤ k) (h1 : k ≤ 18446744073709551615) : BoxOk (tookX X k).2 := by
  unfold tookX
  split
  · exact h
  · exact ⟨h.len, h.le, h.hi, h0, h1⟩
theorem put_ok {P : PostV} (h : PostOk P) {c : Nat} {X : BoxV} (hx : BoxOk X) : PostOk (P.put c X) :=
  ⟨h.n0, h.n1, h.s0, h.s1, fun i => by
    show BoxOk (if i = c then X else P.box i)
    split
    · exact hx
    · exact h.box i⟩
end Go.Proofs.Ytfnneghddndeiaa
end
section
namespace Go.Proofs.Ytfnneghddndeiaa
open Go.RowKit Go.Lib Go.Tk Go.Shelf
theorem box_part {w : World} {b off n : Nat} {vs : Array Value} (h : Box w b vs) (part : Array Value) (hn : part.size = n) (hp : ∀ j v, part[j]? = some v → vs[off + j]? = some v) :
    Sem.run Try.prog (loadCellsFrom ⟨b, off, none⟩ 0 n #[]) w = .ok part w := by
  have := run_loadCellsFrom_list Try.prog w (Addr.mk b off none) part.toList n (by simpa using hn) (fun j v hj => by
    have : (Addr.mk b off none).add j = ⟨b, off + j, none⟩ := by
      unfold Addr.add
      split
      · rename_i e; subst e; rfl
      · simp
    rw [this]
    exact h.cell _ (hp j v (by simpa using hj)))
  simpa using this
theorem box_whole {w : World} {b n : Nat} {vs : Array Value} (h : Box w b vs) (hn : vs.size = n) : Sem.run Try.prog (loadCellsFrom ⟨b, 0, none⟩ 0 n #[]) w = .ok vs w :=
  box_part h vs hn (fun j v hj => by simpa using hj)
end Go.Proofs.Ytfnneghddndeiaa
end
