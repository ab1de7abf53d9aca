/- COUPON 2: known: ranging over the ways. -/
import Derived.Test.YtgikoobngohdnaaCoup1
import Derived.Deep.LoopGhost
namespace Go.Proofs.Ytgikoobngohdnaa
open Go.RowKit Go.Lib Go.Tk Go.Maps

theorem stepK_kv (x : Int × Int) : stepK.kv x = .agg #[.int .u8 x.1, .int .u8 x.2] := rfl

def hasCmd (L : List ((Int × Int) × Value)) (c : Int) : Bool := L.any fun p => p.1.2 == c

theorem hasCmd_perm {L left left' : List ((Int × Int) × Value)} {p : (Int × Int) × Value} {c : Int} (hp : left.Perm (p :: left')) (h : hasCmd L c = hasCmd left c) (hne : p.1.2 ≠ c) : hasCmd L c = hasCmd left' c := by
  rw [h]; unfold hasCmd
  rw [hp.any_eq]; simp [hne]

set_option maxHeartbeats 1000000 in
theorem known_any (b : Nat) (L : List ((Int × Int) × Value)) (cmd : Int) (w : World) (hm : MapAt stepK w b L) :
    Calls Try.prog 35 #[.map (some b), .int .u8 cmd] w fun e w' => e = .returned (.bool (hasCmd L cmd)) ∧ Below w.heap.size w w' := by
  have Hm := hid hm
  clear hm
  go_enter Try.func35, Try.ntmps35
  go_wp2_with (at_range; refine wpList_range_map rfl _ 47 rfl Try.underlying47 rfl Hm.out ?_; intro w1 hrg hb1; go_frame)
  have Hrg := hid hrg
  clear hrg
  go_loopg [] L.length (fun k wr => ∃ left, k = left.length ∧ Hid (Ranging stepK wr w.heap.size b L left) ∧ Hid (hasCmd L cmd = hasCmd left cmd) ∧ Below w.heap.size w wr)
  case atStart => exact ⟨L, rfl, Hrg, rfl, hb1⟩
  case round =>
    obtain ⟨left, rfl, hr, hc, hbel⟩ := hrel
    go_wp2_with (at_next; refine wpList_next_map rfl _ rfl rfl hr.out ?_ ?_)
    · intro hnil
      subst hnil
      go_wp2
      go_ret
      exact ⟨ret_bool (by rw [hc.out]; rfl), hbel⟩
    · intro a c v left' w2 hp hmem hr2 hg hen
      simp only [stepK_kv] at hen ⊢
      have hb2 : Below w.heap.size w w2 := hbel.grown hg hbel.size (fun j hj => by cases hj; exact Nat.le_refl _)
      have Hr2 := hid hr2
      have Hp := hid hp
      have hlen := hp.length_eq
      have Hmem := hid hmem
      clear hp hmem hr2 hg
      simp only [List.length_cons] at hlen
      have HL := hid hlen
      clear hlen
      by_cases hcc : c = cmd
      · have hcb : (c == cmd) = true := by simpa using hcc
        have HC := hid hcc
        clear hcc
        go_wp2
        go_ret
        refine ⟨ret_bool ?_, hb2.alloc hb2.size _⟩
        symm; unfold hasCmd; rw [List.any_eq_true]
        exact ⟨_, Hmem.out, by simpa using HC.out⟩
      · have hcb : (c == cmd) = false := by simpa using hcc
        have HC := hid hcc
        clear hcc
        go_wp2
        go_roundg left'.length
        case measure => have := HL.out; omega
        case rel => exact ⟨left', rfl, hid (Hr2.out.kept ((Below.refl _ _).alloc (Nat.le_refl _) _)), hid (hasCmd_perm Hp.out hc.out HC.out), hb2.alloc hb2.size _⟩
end Go.Proofs.Ytgikoobngohdnaa
