/- append(x, make([]T, n)...): zeros behind a row of one's own. -/
import Derived.Test.YtfnneghddndeiaaMa0601d2
import Derived.Lib.ConvBytes
import Derived.Laws.BytesArg
namespace Go.Vc
set_option linter.unusedVariables false
set_option linter.unusedSimpArgs false
open Go.RowKit Go.Tk Go.Lib Go.Shelf
section
variable {P : Program} (w : World)
end
def bytesOf (s : ByteArray) : List Int := s.data.toList.map fun b => (b.toNat : Int)
def ofBytes (l : List Int) : ByteArray := ⟨(l.map fun x => UInt8.ofNat x.toNat).toArray⟩
theorem Mem.toBytes {P : Program} {cs : List Chunk} {w : World} (h : Mem cs w) {src dst e : TypeId} (s : ByteArray) (hs : P.underlying src = some .string) (hd : P.underlying dst = some (.slice e)) (he : P.underlying e = some (.int .u8)) (hl : s.size ≤ maxLen) :
    ∃ v' w', (convert src dst (.string s)).run P w = .ok v' w' ∧ Mem (rowC e 1 v' s.size ((bytesOf s).map (.int .u8)) :: cs) w' := by
  refine ⟨_, _, Go.Lib.run_convert_string_bytes w src dst e s hs hd he, ?_⟩
  have hb : Below w.heap.size w (bytesWorld w e s) := ⟨rfl, rfl, rfl, by simp [bytesWorld, World.freeze, World.alloc, World.drew, -World.alloc_eq, -World.drew_eq], fun k hk => bytesWorld_at_old w e s k hk⟩
  have hn := bytesWorld_at_new w e s
  refine h.fresh hb (fun k => k = w.heap.size) ⟨fun g hg => by cases hg; rfl, ?_, .inr ⟨w.heap.size, _, bytesCells w e s, rfl, ⟨e, _, (fun x hx => by cases hx; rfl), hn, fun o ho hh => by simp at hh; omega⟩, grownCap_ge w s.size 0 e, grownCap_le_maxLen w s.size 0 e hl, ?_, ?_⟩⟩ (fun k hk => ⟨by rw [hk]; exact Nat.le_refl _, by rw [hk]; exact (Array.getElem?_eq_some_iff.1 hn).1⟩)
  · simp [bytesOf]
  · have := grownCap_ge w s.size 0 e
    simp only [bytesCells, Array.size_append, Array.size_map, Array.size_replicate]
    show s.size + _ = _
    omega
  · unfold bytesCells
    rw [Array.toList_append, Nat.mul_one, List.take_left' (by simp)]
    simp [bytesOf]
theorem run_convert_bytes_zero' {P : Program} (w : World) (src dst e : TypeId) (a : Addr) (c : Nat) (hs : P.underlying src = some (.slice e)) (he : P.underlying e = some (.int .u8)) (hd : P.underlying dst = some .string) :
    (convert src dst (.slice (some a) 0 c)).run P w = .ok (.string ByteArray.empty) w := by
  have := run_convert_bytes_back (P := P) w src dst e a c [] hs he hd (fun j hj => by simp at hj)
  exact this
theorem run_ofBytes {P : Program} {w : World} {src dst e : TypeId} {a : Option Addr} {n c : Nat} {xs : List Int} (hs : P.underlying src = some (.slice e)) (he : P.underlying e = some (.int .u8)) (hd : P.underlying dst = some .string) (hn : xs.length = n) (hr : Row w a (xs.map (.int .u8))) :
    (convert src dst (.slice a n c)).run P w = .ok (.string (ofBytes xs)) w := by
  cases a with
  | none =>
    have hx : xs = [] := by
      cases hxs : xs with
      | nil => rfl
      | cons y r => subst hxs; obtain ⟨b, off, h, -⟩ := hr 0 (by simp); cases h
    subst hx
    rw [run_convert_bytes_nil (P := P) w src e hs he n c dst hd]
    rfl
  | some ad =>
    by_cases hx : xs = []
    · subst hx
      have hn0 : n = 0 := hn.symm
      subst hn0
      rw [run_convert_bytes_zero' w src dst e ad c hs he hd]
      rfl
    · obtain ⟨b, off, hab, -⟩ := hr 0 (by simp; exact List.length_pos_iff.2 hx)
      cases hab
      have := run_convert_bytes_arg (P := P) w src e hs he b off n c xs hn (fun i hi => by
        obtain ⟨b', off', e', hc⟩ := hr i (by simp; omega)
        cases e'
        rw [hc, List.getD_eq_getElem?_getD, List.getElem?_map, List.getD_eq_getElem?_getD, List.getElem?_eq_getElem (by omega)]
        rfl) dst hd
      rw [this]; rfl
section
variable {P : Program} {w : World} {ρ : Operand → Value} {o : Oper}
theorem x_convert {s d : TypeId} {x : Operand} {v u : Value} {w' : World} (ho : o.op = .convert s d x) (hx : ρ x = v) (hr : (convert s d v).run P w = .ok u w') : (execOp ρ o).run P w = .ok (.value u) w' := by
  unfold execOp; rw [ho]; simp [hx, hr]
end
end Go.Vc
