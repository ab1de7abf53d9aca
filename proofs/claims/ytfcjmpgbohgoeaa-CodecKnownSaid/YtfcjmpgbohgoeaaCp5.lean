/- CODEC: the walk of CodecPuts. -/
import Derived.Test.YtfcjmpgbohgoeaaM46
import Derived.Test.YtfcjmpgbohgoeaaCo14
namespace Go.Proofs.Ytfcjmpgbohgoeaa
open Go.RowKit Go.Lib Go.Tk Go.Shelf Go.Vc Go.Sx
set_option linter.unusedVariables false
set_option linter.unusedSimpArgs false
theorem cells_one {α : Type} {enc : α → List Value} (h : ∀ x, ∀ v ∈ enc x, v.oneCell' = true) (l : List α) : ∀ u ∈ cellsL enc l, u.oneCell' = true := fun u hu => by
  obtain ⟨x, hx, hu⟩ := List.mem_flatten.1 hu
  obtain ⟨y, -, rfl⟩ := List.mem_map.1 hx
  exact h y u hu
theorem rdv2 {E : TypeId} {size n c : Nat} {v : Value} {a : Option Addr} {xs : List Value} (h : v = .slice a n c) : Rd (rowC E size v n xs) a xs := by subst h; exact rd_row
/-- codec.Put by contract -/
theorem putk_ok (r : RecV) (hw : RecW r) :
    CallOK Try.prog 12 [.agg (recS r (.raw 0 0) (.raw 0 1))] [((0, 0), legRow r.cmd.legs.length (cellsL legE r.cmd.legs)), ((0, 1), taxRow r.cmd.taxes.length (cellsL taxE r.cmd.taxes))] [] (.tup [.raw 1 0, .val (.int .i64 (putE r))]) [((1, 0), u8R (cB (putB r)) (putB r).length)] := by
  intro ε R w hM
  have hM : Mem (rowC 36 3 (asSl (ε 0 0).2) r.cmd.legs.length (cellsL legE r.cmd.legs) :: rowC 58 2 (asSl (ε 0 1).2) r.cmd.taxes.length (cellsL taxE r.cmd.taxes) :: R) w := hM
  obtain ⟨a0, c0, h0, -⟩ := (hM.owns 0 rfl).row
  obtain ⟨a1, c1, h1, -⟩ := (hM.owns 1 rfl).row
  have e : (SV.dens ε [.agg (recS r (.raw 0 0) (.raw 0 1))]).toArray = #[.agg (recCells r (.slice a0 r.cmd.legs.length c0) (.slice a1 r.cmd.taxes.length c1))] := by rw [← h0, ← h1]; rfl
  rw [e]
  refine (put_at r a0 a1 c0 c1 _ w hM (fun w hm => (rdv2 h0).row hm 0 rfl) (fun w hm => (rdv2 h1).row hm 1 rfl) hw).mono ?_
  rintro e' w' ⟨v, rfl, hm⟩
  have e1 : asSl v = v := asSl_self (hm.owns 0 rfl)
  refine ⟨fun _ => (0, v), ?_, ?_⟩
  · have : (Value.tuple #[v, .int .i64 (putE r)]) = .tuple #[asSl v, .int .i64 (putE r)] := by rw [e1]
    rw [this]; rfl
  · have hm : Mem (rowC 5 1 (asSl v) (putB r).length (cB (putB r)) :: rowC 36 3 (asSl (ε 0 0).2) r.cmd.legs.length (cellsL legE r.cmd.legs) :: rowC 58 2 (asSl (ε 0 1).2) r.cmd.taxes.length (cellsL taxE r.cmd.taxes) :: R) w' := by rw [e1]; exact hm
    exact (hm.front 2 rfl).front 2 rfl
end Go.Proofs.Ytfcjmpgbohgoeaa
