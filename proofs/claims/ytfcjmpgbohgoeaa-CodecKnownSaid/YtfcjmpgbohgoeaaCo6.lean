/- CODEC: lists, plain: what holds while each of a row's things is gone over. -/
import Derived.Test.YtfcjmpgbohgoeaaCo5
namespace Go.Proofs.Ytfcjmpgbohgoeaa
set_option linter.unusedVariables false
set_option linter.unusedSimpArgs false
open Go.RowKit Go.Lib Go.Tk Go.Shelf Go.Vc

theorem row_slice {cs : List Chunk} {w : World} (h : Mem cs w) (i : Nat) {E : TypeId} {size n : Nat} {v : Value} {xs : List Value} (hi : cs[i]? = some (rowC E size v n xs)) : ∃ a c, v = .slice a n c ∧ n ≤ c ∧ c ≤ maxLen := by
 obtain ⟨a, c, hv, -, h1, h2, -⟩ := (h.owns i hi).row
 exact ⟨a, c, hv, h1, h2⟩
theorem row_box {E : TypeId} {size n : Nat} {v : Value} {xs : List Value} {R : List Chunk} {w : World} (h : Mem (rowC E size v n xs :: R) w) (hn : 0 < n) :
  ∃ g cap cur, v = .slice (some ⟨g, 0, none⟩) n cap ∧ Mem (boxE (some E) g cur :: R) w ∧ n ≤ cap ∧ cap ≤ maxLen ∧ cur.size = cap * size ∧ cur.toList.take (n * size) = xs := by
 rcases (h.owns 0 rfl).2 with ⟨h1, h2⟩ | ⟨g, cap, cur, h1, hh, h2, h3, h4, h5⟩
 · omega
 · exact ⟨g, cap, cur, h1, h.weaken (fun S hS => ⟨hS.1 g (by rw [h1]; rfl), hh⟩), h2, h3, h4, h5⟩
theorem box_row {E : TypeId} {size n g cap : Nat} {cur : Array Value} {R : List Chunk} {w : World} (h : Mem (boxE (some E) g cur :: R) w) (h1 : n ≤ cap) (h2 : cap ≤ maxLen) (h3 : cur.size = cap * size) :
  Mem (rowC E size (.slice (some ⟨g, 0, none⟩) n cap) n (cur.toList.take (n * size)) :: R) w :=
 h.weaken (fun S hS => ⟨fun g' hg => by cases hg; exact hS.1, by
  rw [List.length_take, Array.length_toList, h3]
  exact Nat.min_eq_left (Nat.mul_le_mul_right _ h1), .inr ⟨g, cap, cur, rfl, hS.2, h1, h2, h3, rfl⟩⟩)
theorem none_row {E : TypeId} {size : Nat} {c : Chunk} {R : List Chunk} {w : World} (h : Mem (c :: R) w) : Mem (rowC E size (.slice none 0 0) 0 [] :: R) w := h.tail.noRow E size
theorem over_get {vs : Array Value} {lo : Nat} {v : Value} (h : lo < vs.size) : (over vs lo [v])[lo]? = some v := by
 unfold over
 have e0 : (vs.toList.take lo).length = lo := by rw [List.length_take, Array.length_toList]; omega
 simp only [List.getElem?_toArray]
 rw [List.append_assoc, List.getElem?_append_right (by omega), e0]
 simp
theorem over_again {vs : Array Value} {lo : Nat} {v u : Value} (h : lo < vs.size) : over (over vs lo [v]) lo [u] = over vs lo [u] := by
 unfold over
 congr 1
 have e0 : (vs.toList.take lo).length = lo := by rw [List.length_take, Array.length_toList]; omega
 have e1 : (vs.toList.take lo ++ [v]).length = lo + 1 := by simp [e0]
 simp only [List.length_singleton]
 have e2 : List.take lo (List.take lo vs.toList ++ [v] ++ List.drop (lo + 1) vs.toList) = List.take lo vs.toList := by rw [List.append_assoc]; exact List.take_left' e0
 rw [e2, List.drop_left' e1]

structure EachI {α : Type} (enc : α → List Value) (size : Nat) (f : WS → α → α × WS) (ok : WS → α → Prop) (K : Nat) (σ1 : WS) (base : List α) (cap i : Nat) (σ : WS) (cur : Array Value) (done rest : List α) : Prop where
 hdone : done.length = i
 hn : i + rest.length = base.length
 hcap : base.length ≤ cap
 sz : cur.size = cap * size
 take : cur.toList.take (base.length * size) = cellsL enc (done ++ rest)
 each : eachL f σ1 base = (done ++ (eachL f σ rest).1, (eachL f σ rest).2)
 len : σ.bs.length ≤ σ1.bs.length + i * K
section
variable {α : Type} {enc : α → List Value} {size : Nat} {f : WS → α → α × WS} {ok : WS → α → Prop} {K : Nat} {σ1 : WS} {base : List α} {cap i : Nat} {σ : WS} {cur : Array Value} {done rest : List α}
theorem EachI.start (h1 : base.length ≤ cap) (h2 : cur.size = cap * size) (h3 : cur.toList.take (base.length * size) = cellsL enc base) : EachI enc size f ok K σ1 base cap 0 σ1 cur [] base :=
 ⟨rfl, by omega, h1, h2, by simpa using h3, rfl, by omega⟩
theorem EachI.seg (henc : ∀ x, (enc x).length = size) {x : α} (h : EachI enc size f ok K σ1 base cap i σ cur done (x :: rest)) : Seg cur (0 + i * size) (enc x) := by
 have hn := h.hn
 have hc := h.hcap
 have hs := h.sz
 simp only [List.length_cons] at hn
 have hsz : (i + 1) * size ≤ base.length * size := Nat.mul_le_mul_right _ (by omega)
 have hsz2 : base.length * size ≤ cap * size := Nat.mul_le_mul_right _ hc
 rw [Nat.add_mul, Nat.one_mul] at hsz
 refine ⟨by rw [henc]; omega, ?_⟩
 have ht : (cur.toList.take (base.length * size)).drop (i * size) = (cellsL enc (done ++ x :: rest)).drop (i * size) := by rw [h.take]
 have hd : (cellsL enc done).length = i * size := by rw [cellsL_len henc, h.hdone]
 rw [cellsL_append, List.drop_left' hd, List.drop_take] at ht
 have ht2 := congrArg (List.take size) ht
 rw [List.take_take, Nat.min_eq_left (by omega), show cellsL enc (x :: rest) = enc x ++ cellsL enc rest from by simp [cellsL], List.take_left' (henc x)] at ht2
 rw [Nat.zero_add, henc]
 exact ht2
theorem EachI.step (henc : ∀ x, (enc x).length = size) (hK : ∀ σ x, ok σ x → (f σ x).2.bs.length ≤ σ.bs.length + K) {x : α} (hx : ok σ x) (h : EachI enc size f ok K σ1 base cap i σ cur done (x :: rest)) :
  EachI enc size f ok K σ1 base cap (i + 1) (f σ x).2 (over cur (0 + i * size) (enc (f σ x).1)) (done ++ [(f σ x).1]) rest := by
 have hn := h.hn
 have hc := h.hcap
 have hs := h.sz
 simp only [List.length_cons] at hn
 have hsz : (i + 1) * size ≤ base.length * size := Nat.mul_le_mul_right _ (by omega)
 have hsz2 : base.length * size ≤ cap * size := Nat.mul_le_mul_right _ hc
 rw [Nat.add_mul, Nat.one_mul] at hsz
 have hd : (cellsL enc done).length = i * size := by rw [cellsL_len henc, h.hdone]
 refine ⟨by simp [h.hdone], by omega, hc, ?_, ?_, ?_, ?_⟩
 · rw [over_size (by rw [henc]; omega)]; exact hs
 ·
  unfold over
  simp only [Nat.zero_add, henc]
  have e0 : (cur.toList.take (i * size)).length = i * size := by rw [List.length_take, Array.length_toList]; omega
  have e1 : cur.toList.take (i * size) = cellsL enc done := by
   have := congrArg (List.take (i * size)) h.take
   rw [List.take_take, Nat.min_eq_left (by omega), cellsL_append, List.take_left' hd] at this
   exact this
  have e2 : (cur.toList.drop (i * size + size)).take (base.length * size - (i * size + size)) = cellsL enc rest := by
   have := congrArg (List.drop (i * size + size)) h.take
   rw [List.drop_take, cellsL_append, show cellsL enc (x :: rest) = enc x ++ cellsL enc rest from by simp [cellsL], ← List.append_assoc, List.drop_left' (by rw [List.length_append, hd, henc])] at this
   exact this
  have e3 : (cellsL enc done ++ enc (f σ x).1).length = i * size + size := by rw [List.length_append, hd, henc]
  rw [e1, List.take_append, e3, List.take_of_length_le (by omega), e2, cellsL_append, cellsL_append]
  simp [cellsL]
 ·
  rw [h.each]
  show (done ++ (f σ x).1 :: (eachL f (f σ x).2 rest).1, (eachL f (f σ x).2 rest).2) = _
  simp
 ·
  have := hK σ x hx
  have := h.len
  rw [Nat.add_mul, Nat.one_mul]; omega
theorem EachI.fin (h : EachI enc size f ok K σ1 base cap i σ cur done []) : cur.toList.take (base.length * size) = cellsL enc (eachL f σ1 base).1 ∧ σ = (eachL f σ1 base).2 ∧ i = base.length := by
 have h1 := h.take
 have h2 := h.each
 have h3 := h.hn
 simp [eachL] at h1 h2 h3
 rw [h2]
 exact ⟨h1, rfl, h3⟩
end
end Go.Proofs.Ytfcjmpgbohgoeaa
