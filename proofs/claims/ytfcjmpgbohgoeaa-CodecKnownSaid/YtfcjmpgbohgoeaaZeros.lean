/- append(x, make([]T, n)...): zeros behind a row of one's own. -/
import Derived.Test.YtfcjmpgbohgoeaaOps
import Derived.Lib.ConvBytes
import Derived.Laws.BytesArg
namespace Go.Vc
set_option linter.unusedVariables false
set_option linter.unusedSimpArgs false
open Go.RowKit Go.Tk Go.Lib Go.Shelf
section
variable {P : Program} (w : World)
theorem run_zeros_nil (t u ty e : TypeId) (i : TypeInfo) (z : Value) (k : IntKind) (ht : P.underlying t = some (.slice e)) (hu : P.underlying u = some (.int k)) (hi : P.info? e = some i) (hz : i.zero = some z) (hs : 0 < i.size) (n : Nat)
    (h0 : 0 < n) (h63 : (n : Int) ≤ 9223372036854775807) (h48 : n * i.bytes ≤ 281474976710656) :
    (Builtin.append_ #[t, u] ty #[.slice none 0 0, .int .i64 n]).run P w =
      .ok (.slice (some ⟨w.heap.size, 0, none⟩) n (grownCap w n 0 e)) (w.drew.alloc (.cells (Builtin.zeroCells z.cells n ++ Builtin.zeroCells z.cells (grownCap w n 0 e - n)) e)) := by
  have hn : n ≠ 0 := by omega
  have hw : IntKind.i64.wrap (n : Int) = n := wr_i64 (by omega)
  have h63' : ¬ (9223372036854775807 < (n : Int)) := by omega
  have h48' : ¬ (281474976710656 < Builtin.nextslicecap n 0 * i.bytes) := by rw [nextslicecap_zero h0]; omega
  have h48'' : ¬ ((281474976710656 : Int) < (n : Int) * i.bytes) := by
    have : (n : Int) * i.bytes = ((n * i.bytes : Nat) : Int) := by simp
    omega
  have hneg : ¬ (n : Int) < 0 := by omega
  have hs2 : ¬ n * i.size = 0 := Nat.mul_ne_zero hn (by omega)
  simp [Builtin.append_, run_underlying ht, run_underlying hu, sizeOf, typeInfo, zeroValue, hi, hz, hn, asInt, asIntOf, hw, hneg, h63', h48', h48'', Question.forced, run_firstCells_none, newRow, grownCap, hs2]
theorem run_zeros_grow (t u ty e : TypeId) (i : TypeInfo) (z : Value) (k : IntKind) (ht : P.underlying t = some (.slice e)) (hu : P.underlying u = some (.int k)) (hi : P.info? e = some i) (hz : i.zero = some z) (hs : 0 < i.size)
    (b : Addr) (sLen sCap : Nat) (olds : List Value) (hlo : olds.length = sLen * i.size) (holds : ∀ (j : Nat) v, olds[j]? = some v → w.cell? (b.add j) = some v) (m : Nat)
    (hg : sCap < sLen + m) (h63 : ((sLen + m : Nat) : Int) ≤ 9223372036854775807) (hfit : Builtin.nextslicecap (sLen + m) sCap * i.bytes ≤ 281474976710656) (h48 : m * i.bytes ≤ 281474976710656) (hsc : sLen ≤ sCap) :
    (Builtin.append_ #[t, u] ty #[.slice (some b) sLen sCap, .int .i64 m]).run P w =
      .ok (.slice (some ⟨w.heap.size, 0, none⟩) (sLen + m) (grownCap w (sLen + m) sCap e))
        (w.drew.alloc (.cells (olds.toArray ++ Builtin.zeroCells z.cells m ++ Builtin.zeroCells z.cells (grownCap w (sLen + m) sCap e - (sLen + m))) e)) := by
  have hn : ¬ (sLen + m ≤ sCap) := by omega
  have hw : IntKind.i64.wrap (m : Int) = m := wr_i64 (by omega)
  have h63' : ¬ (9223372036854775807 < ((sLen : Int) + (m : Int))) := by omega
  have h48' : ¬ (281474976710656 < Builtin.nextslicecap (sLen + m) sCap * i.bytes) := by omega
  have h48'' : ¬ ((281474976710656 : Int) < (m : Int) * i.bytes) := by
    have : (m : Int) * i.bytes = ((m * i.bytes : Nat) : Int) := by simp
    omega
  have hneg : ¬ (m : Int) < 0 := by omega
  have hs2 : ¬ i.size = 0 := by omega
  have hm : ¬ m * i.size = 0 := Nat.mul_ne_zero (by omega) hs2
  have hfo := run_firstCells_some (P := P) w.drew i.size sLen b sLen sCap olds hlo (by simpa using holds)
  simp [Builtin.append_, run_underlying ht, run_underlying hu, sizeOf, typeInfo, zeroValue, hi, hz, hn, asInt, asIntOf, hw, hneg, h63', h48', h48'', Question.forced, hfo, newRow, grownCap, hm]
end
theorem zeroCells_one {z : Array Value} (h : ∀ u ∈ z.toList, u.oneCell' = true) (n : Nat) (hz : 0 < z.size) : ∀ u ∈ (Builtin.zeroCells z n).toList, u.oneCell' = true := by
  intro u hu
  unfold Builtin.zeroCells at hu
  simp only [Array.toList_map, List.mem_map] at hu
  obtain ⟨i, -, rfl⟩ := hu
  have hlt : i % z.size < z.size := Nat.mod_lt _ hz
  rw [getElem!_pos z (i % z.size) hlt]
  exact h _ (by simp)
theorem apps_zeros {P : Program} {w : World} (t u ty e : TypeId) (k : IntKind) (size bytes n : Nat) (z : Value) (ht : P.underlying t = some (.slice e)) (hu : P.underlying u = some (.int k)) (hinfo : (P.info? e).map (fun i => (i.zero, i.size, i.bytes)) = some (some z, size, bytes)) (hzs : z.cells.size = size) (hsz : 0 < size)
    (h1 : ∀ u ∈ z.cells.toList, u.oneCell' = true) (m : Nat) (h63 : n + m ≤ maxLen) (hbytes : (n + m) * bytes ≤ 140737488355328) :
    Apps P #[t, u] ty e size z (.int .i64 m) n m (Builtin.zeroCells z.cells m).toList w := by
  obtain ⟨i, hi, hz, hz1, hz2⟩ := info_parts hinfo
  subst hz1
  subst hz2
  have hsmall : n + m ≤ 9223372036854775807 := by simp only [maxLen] at h63; omega
  have hmb : m * i.bytes ≤ 140737488355328 := Nat.le_trans (Nat.mul_le_mul_right _ (by omega)) hbytes
  have h1n := zeroCells_one h1 m (by omega)
  have hw : IntKind.i64.wrap (m : Int) = m := wr_i64 (by omega)
  have h48'' : ¬ ((281474976710656 : Int) < (m : Int) * i.bytes) := by
    have : (m : Int) * i.bytes = ((m * i.bytes : Nat) : Int) := by simp
    omega
  have hneg : ¬ (m : Int) < 0 := by omega
  have hw0 : IntKind.i64.wrap 0 = 0 := rfl
  refine ⟨by rw [Array.length_toList, size_zeroCells, hzs], List.all_eq_true.2 h1n, fun hm => ?_, fun hn hm => ?_, fun g cap w' hroom hst => ?_, fun g cap olds hlo holds hnc hgr => ?_⟩
  · subst hm
    simp [Builtin.append_, run_underlying ht, run_underlying hu, sizeOf, typeInfo, hi, asInt, asIntOf, hw0]
  · subst hn
    have := run_zeros_nil (P := P) w t u ty e i z k ht hu hi hz hsz m hm (by omega) (by omega)
    simpa using this
  · by_cases hm : m = 0
    · subst hm
      have hz0 : Builtin.zeroCells z.cells 0 = #[] := Array.eq_empty_of_size_eq_zero (by rw [size_zeroCells]; omega)
      rw [hz0] at hst
      have hr0 : n ≤ cap := hroom
      simp [Builtin.append_, run_underlying ht, run_underlying hu, sizeOf, typeInfo, hi, asInt, asIntOf, hw0, hr0, Addr.add_lit] at hst ⊢
      rw [hst]; rfl
    · have hs3 : ¬ m * i.size = 0 := Nat.mul_ne_zero hm (by omega)
      simp [Builtin.append_, run_underlying ht, run_underlying hu, sizeOf, typeInfo, zeroValue, hi, hz, asInt, asIntOf, hw, hneg, h48'', hroom, Addr.add_lit, hst, hs3]
  · have hnc2 : Builtin.nextslicecap (n + m) cap * i.bytes ≤ 281474976710656 := by
      have h2 := nextslicecap_le (need := n + m) (old := cap) (by omega)
      have h3 : Builtin.nextslicecap (n + m) cap * i.bytes ≤ 2 * (n + m) * i.bytes := Nat.mul_le_mul_right _ h2
      have h4 : 2 * (n + m) * i.bytes = 2 * ((n + m) * i.bytes) := Nat.mul_assoc _ _ _
      omega
    have := run_zeros_grow (P := P) w t u ty e i z k ht hu hi hz hsz ⟨g, 0, none⟩ n cap olds hlo holds m hgr (by omega) hnc2 (by omega) hnc
    simpa using this
theorem Mem.append_zeros {P : Program} {cs : List Chunk} {w : World} (h : Mem cs w) (i : Nat) {e : TypeId} {size n : Nat} {v : Value} {xs : List Value} (hi : cs[i]? = some (rowC e size v n xs)) (t u ty : TypeId) (k : IntKind) (bytes : Nat) (z : Value)
    (ht : P.underlying t = some (.slice e)) (hu : P.underlying u = some (.int k)) (hinfo : (P.info? e).map (fun i => (i.zero, i.size, i.bytes)) = some (some z, size, bytes)) (hzs : z.cells.size = size) (hsz : 0 < size) (h1 : ∀ u ∈ z.cells.toList, u.oneCell' = true)
    (m : Nat) (h63 : n + m ≤ maxLen) (hbytes : (n + m) * bytes ≤ 140737488355328) :
    ∃ v' w', (Builtin.append_ #[t, u] ty #[v, .int .i64 m]).run P w = .ok v' w' ∧ Mem (cs.set i (rowC e size v' (n + m) (xs ++ (Builtin.zeroCells z.cells m).toList))) w' :=
  h.apps i hi (apps_zeros t u ty e k size bytes n z ht hu hinfo hzs hsz h1 m h63 hbytes) hzs h63
/-! ### texts and bytes -/
def bytesOf (s : ByteArray) : List Int := s.data.toList.map fun b => (b.toNat : Int)
theorem bytesOf_len (s : ByteArray) : (bytesOf s).length = s.size := by simp [bytesOf]
def ofBytes (l : List Int) : ByteArray := ⟨(l.map fun x => UInt8.ofNat x.toNat).toArray⟩
theorem Mem.toBytes {P : Program} {cs : List Chunk} {w : World} (h : Mem cs w) {src dst e : TypeId} (s : ByteArray) (hs : P.underlying src = some .string) (hd : P.underlying dst = some (.slice e)) (he : P.underlying e = some (.int .u8)) (hl : s.size ≤ maxLen) :
    ∃ v' w', (convert src dst (.string s)).run P w = .ok v' w' ∧ Mem (rowC e 1 v' s.size ((bytesOf s).map (.int .u8)) :: cs) w' := by
  refine ⟨_, _, Go.Lib.run_convert_string_bytes w src dst e s hs hd he, ?_⟩
  have hb : Below w.heap.size w (bytesWorld w e s) := ⟨rfl, rfl, rfl, by simp [bytesWorld, World.freeze, World.alloc, World.drew, -World.alloc_eq, -World.drew_eq], fun k hk => bytesWorld_at_old w e s k hk⟩
  have hn := bytesWorld_at_new w e s
  refine h.fresh hb (fun k => k = w.heap.size) ⟨fun g hg => by cases hg; rfl, ?_, .inr ⟨w.heap.size, _, bytesCells w e s, rfl, ⟨e, _, (fun x hx => by cases hx; rfl), hn, fun o ho hh => by simp at hh; omega⟩, grownCap_ge w s.size 0 e, grownCap_le_maxLen w s.size 0 e hl, ?_, ?_⟩⟩ (fun k hk => ⟨by rw [hk]; exact Nat.le_refl _, by rw [hk]; exact (Array.getElem?_eq_some_iff.1 hn).1⟩)
  · simp [bytesOf]
  · have := grownCap_ge w s.size 0 e
    simp only [bytesCells, Array.size_append, Array.size_map, Array.size_replicate]
    show s.size + _ = _
    omega
  · unfold bytesCells
    rw [Array.toList_append, Nat.mul_one, List.take_left' (by simp)]
    simp [bytesOf]
theorem run_convert_bytes_zero' {P : Program} (w : World) (src dst e : TypeId) (a : Addr) (c : Nat) (hs : P.underlying src = some (.slice e)) (he : P.underlying e = some (.int .u8)) (hd : P.underlying dst = some .string) :
    (convert src dst (.slice (some a) 0 c)).run P w = .ok (.string ByteArray.empty) w := by
  have := run_convert_bytes_back (P := P) w src dst e a c [] hs he hd (fun j hj => by simp at hj)
  exact this
theorem run_ofBytes {P : Program} {w : World} {src dst e : TypeId} {a : Option Addr} {n c : Nat} {xs : List Int} (hs : P.underlying src = some (.slice e)) (he : P.underlying e = some (.int .u8)) (hd : P.underlying dst = some .string) (hn : xs.length = n) (hr : Row w a (xs.map (.int .u8))) :
    (convert src dst (.slice a n c)).run P w = .ok (.string (ofBytes xs)) w := by
  cases a with
  | none =>
    have hx : xs = [] := by
      cases hxs : xs with
      | nil => rfl
      | cons y r => subst hxs; obtain ⟨b, off, h, -⟩ := hr 0 (by simp); cases h
    subst hx
    rw [run_convert_bytes_nil (P := P) w src e hs he n c dst hd]
    rfl
  | some ad =>
    by_cases hx : xs = []
    · subst hx
      have hn0 : n = 0 := hn.symm
      subst hn0
      rw [run_convert_bytes_zero' w src dst e ad c hs he hd]
      rfl
    · obtain ⟨b, off, hab, -⟩ := hr 0 (by simp; exact List.length_pos_iff.2 hx)
      cases hab
      have := run_convert_bytes_arg (P := P) w src e hs he b off n c xs hn (fun i hi => by
        obtain ⟨b', off', e', hc⟩ := hr i (by simp; omega)
        cases e'
        rw [hc, List.getD_eq_getElem?_getD, List.getElem?_map, List.getD_eq_getElem?_getD, List.getElem?_eq_getElem (by omega)]
        rfl) dst hd
      rw [this]; rfl
section
variable {P : Program} {w : World} {ρ : Operand → Value} {o : Oper}
theorem x_convert {s d : TypeId} {x : Operand} {v u : Value} {w' : World} (ho : o.op = .convert s d x) (hx : ρ x = v) (hr : (convert s d v).run P w = .ok u w') : (execOp ρ o).run P w = .ok (.value u) w' := by
  unfold execOp; rw [ho]; simp [hx, hr]
end
end Go.Vc
