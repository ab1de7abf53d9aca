/- POST, PostNumbers: where what was said lies beside the post. -/
import Derived.Test.YtfnneghddndeiaaNumPlain
import Derived.Test.YtfnneghddndeiaaFlow
import Derived.Test.YtfnneghddndeiaaPostAct
import Derived.Deep.RegionHeld3
import Derived.Deep.DrawnRows
namespace Go.Proofs.Ytfnneghddndeiaa
open Go.RowKit Go.Lib Go.Tk Go.Shelf Go.Maps
attribute [-go_sem] loadCellsFrom

theorem _root_.Go.Tk.Row.load {α : Type} {enc : α → List Value} {size : Nat} (hk : ∀ x, (enc x).length = size) {w : World} {a : Option Addr} {l : List α} (h : Row w a (cellsL enc l)) {k : Nat} (hkl : k < l.length) (hs : 0 < size) :
    ∃ b off, a = some ⟨b, off, none⟩ ∧ Sem.run Try.prog (loadCellsFrom (Addr.mk b (off + k * size) none) 0 size #[]) w = .ok (enc l[k]).toArray w := by
  obtain ⟨b, off, ha, hcell⟩ := h.thing hk hkl hs
  refine ⟨b, off, ha, run_loadCellsFrom_list Try.prog w (Addr.mk b (off + k * size) none) (enc l[k]) size (hk _) (fun i u hi => ?_)⟩
  have hi12 : i < size := by
    rcases Nat.lt_or_ge i size with h | h
    · exact h
    · rw [List.getElem?_eq_none (by rw [hk]; exact h)] at hi; cases hi
  have e : (Addr.mk b (off + k * size) none).add i = ⟨b, off + (k * size + i), none⟩ := by
    unfold Addr.add
    split
    · rename_i e; subst e; rfl
    · rw [← Nat.add_assoc]
  rw [e, hcell i hi12, List.getD_eq_getElem?_getD, hi]; rfl

structure NumAt (w0 w : World) (pb sb n : Nat) (P : PostV) (S : Nat → List Msg) (V : Nat → Value) : Prop where
  post : ∃ T : Nat → Prop, PostAt w T pb P ∧ (∀ k, T k → w0.heap.size ≤ k ∧ k < w.heap.size) ∧ ¬ T sb ∧ (∀ c, c < n → ∀ g, (V c).ownBlock = some g → ¬ T g)
  mat : Box w sb ((List.range n).map V).toArray
  row : ∀ c, c < n → w.ownsRow w0.heap.size 44 12 (V c) (S c).length (cellsL encMsg (S c))
  apart : ∀ c d, c < n → d < n → c ≠ d → ∀ g, (V c).ownBlock = some g → (V d).ownBlock ≠ some g
  off : ∀ c, c < n → (V c).ownBlock ≠ some sb
  lo : w0.heap.size ≤ sb
  below : Below w0.heap.size w0 w

theorem NumAt.kept {w0 w w' : World} {pb sb n : Nat} {P : PostV} {S : Nat → List Msg} {V : Nat → Value} (h : NumAt w0 w pb sb n P S V) (hb : Below w.heap.size w w') : NumAt w0 w' pb sb n P S V := by
  obtain ⟨⟨T, h1, h2, h3, h4⟩, hm, hr, ha, ho, hl, hB⟩ := h
  exact ⟨⟨T, h1.kept hb, fun k hk => ⟨(h2 k hk).1, Nat.lt_of_lt_of_le (h2 k hk).2 hb.size⟩, h3, h4⟩, hm.kept hb, fun c hc => ownsRow_fr (hr c hc) (fr_below (fun _ => False) hb) (fun _ _ f => f), ha, ho, hl, hB.trans (hb.mono hB.size)⟩
theorem NumAt.at {w0 w : World} {pb sb n : Nat} {P : PostV} {S : Nat → List Msg} {V : Nat → Value} (h : NumAt w0 w pb sb n P S V) :
    ∃ T : Nat → Prop, (∀ k, T k → k < w.heap.size) ∧ ∀ wx, Below w.heap.size w wx → PostAt wx T pb P ∧ ∀ r e w', AtDid wx T pb r e w' → e = .returned (.int .i64 r.1) ∧ NumAt w0 w' pb sb n r.2 S V := by
  obtain ⟨⟨T, h1, h2, h3, h4⟩, hm0, hr0, ha, ho, hl, hB0⟩ := h
  refine ⟨T, fun k hk => (h2 k hk).2, fun wx hb => ⟨h1.kept hb, ?_⟩⟩
  have hm := hm0.kept hb
  have hr := fun c hc => ownsRow_fr (hr0 c hc) (fr_below (fun _ => False) hb) (fun _ _ f => f)
  have hB := hB0.trans (hb.mono hB0.size)
  rintro r e w' ⟨he, hp, hf⟩
  refine ⟨he, ⟨⟨_, hp.now, fun k ⟨hk, hlt⟩ => ⟨?_, hlt⟩, fun ⟨hk, _⟩ => ?_, fun c hc g hg ⟨hk, _⟩ => ?_⟩, hm.fr hf h3, fun c hc => ownsRow_fr (hr c hc) hf (fun g hg => h4 c hc g hg), ha, ho, hl, hB.trans (hf.below (fun b _ hb => (h2 b hb).1) hB.size)⟩⟩
  · rcases hk with hk | hk
    · exact (h2 k hk).1
    · exact Nat.le_trans hB.size hk
  · rcases hk with hk | hk
    · exact h3 hk
    · have := hm.lt; omega
  · rcases hk with hk | hk
    · exact h4 c hc g hg hk
    · have := ((hr c hc).lt g hg).2; omega
/-- something is said to c -/
theorem NumAt.said {w0 w w1 : World} {pb sb n c : Nat} {P : PostV} {S : Nat → List Msg} {V : Nat → Value} {v' : Value} {m : Msg} (h : NumAt w0 w pb sb n P S V) (hc : c < n)
    (hown : w1.ownsRow w0.heap.size 44 12 v' ((S c).length + 1) (cellsL encMsg (S c) ++ encMsg m)) (hg : w.grownBy w1 (V c).ownBlock) (hat : v'.ownBlock = (V c).ownBlock ∨ ∃ g, v'.ownBlock = some g ∧ w.heap.size ≤ g) :
    NumAt w0 (w1.setCell ⟨sb, c, none⟩ v') pb sb n P (saidPut S c m) (fun i => if i = c then v' else V i) := by
  obtain ⟨⟨T, h1, h2, h3, h4⟩, hm, hr, ha, ho, hl, hB⟩ := h
  have hsz : ∀ g, v'.ownBlock = some g → (V c).ownBlock = some g ∨ w.heap.size ≤ g := fun g hg => by
    rcases hat with e | ⟨g', e, hle⟩
    · exact .inl (e ▸ hg)
    · rw [hg] at e; cases e; exact .inr hle
  have hm1 : Box w1 sb ((List.range n).map V).toArray := hm.grown hg (ho c hc)
  have hvs : v'.ownBlock ≠ some sb := fun e => by
    rcases hsz sb e with h | h
    · exact ho c hc h
    · have := hm.lt; omega
  have hV : ∀ d, d < n → d ≠ c → (fun i => if i = c then v' else V i) d = V d := fun d _ hd => if_neg hd
  have F : Fr (fun k => (V c).ownBlock = some k ∨ k = sb) w (w1.setCell ⟨sb, c, none⟩ v') :=
    ((Fr.refl (fun _ => False) w).mono (fun _ _ f => f.elim) |>.grown hg (fun g e => .inl e)).set sb c v' (.inr rfl)
  refine ⟨⟨T, h1.fr F (fun k hk hc' => ?_), fun k hk => ⟨(h2 k hk).1, Nat.lt_of_lt_of_le (h2 k hk).2 (by simpa using F.size)⟩, h3, fun d hd g hgd => ?_⟩, ?_, fun d hd => ?_, fun d e hd he hde g hgd => ?_, fun d hd => ?_, hl, ?_⟩
  · rcases hc' with e | rfl
    · exact h4 c hc k e hk
    · exact h3 hk
  · by_cases e : d = c
    · subst e
      simp only [if_true] at hgd
      rcases hsz g hgd with h | h
      · exact h4 d hc g h
      · intro ht; have := (h2 g ht).2; omega
    · simp only [if_neg e] at hgd; exact h4 d hd g hgd
  · have := hm1.set c v'
    rw [show (((List.range n).map V).toArray.setIfInBounds c v') = ((List.range n).map (fun i => if i = c then v' else V i)).toArray from by
      rw [List.setIfInBounds_toArray]
      congr 1
      apply List.ext_getElem
      · simp
      · intro i h1 h2
        rw [List.getElem_set]
        by_cases e : c = i
        · subst e; simp
        · have e2 : ¬ i = c := fun x => e x.symm
          simp [e, e2]] at this
    exact this
  · by_cases e : d = c
    · subst e
      have e1 : saidPut S d m d = S d ++ [m] := if_pos rfl
      rw [e1, List.length_append, cellsL_snoc]
      simp only [if_true]
      exact ownsRow_fr hown ((Fr.refl (fun k => k = sb) w1).set sb d v' rfl) (fun g hg e => hvs (by rw [hg, e]))
    · rw [show saidPut S c m d = S d from if_neg e]
      simp only [if_neg e]
      exact ownsRow_fr (hr d hd) F (fun g hgd hx => by
        rcases hx with h | rfl
        · exact ha d c hd hc e g hgd h
        · exact ho d hd hgd)
  · by_cases e1 : d = c
    · subst e1
      have e2 : e ≠ d := fun x => hde x.symm
      simp only [if_true] at hgd
      simp only [if_neg e2]
      intro he2
      rcases hsz g hgd with h | h
      · exact ha d e hd he hde g h he2
      · have := ((hr e he).lt g he2).2; omega
    · simp only [if_neg e1] at hgd
      by_cases e2 : e = c
      · subst e2
        simp only [if_true]
        intro he2
        rcases hsz g he2 with h | h
        · exact ha d e hd he hde g hgd h
        · have := ((hr d hd).lt g hgd).2; omega
      · simp only [if_neg e2]; exact ha d e hd he hde g hgd
  · by_cases e : d = c
    · subst e; simp only [if_true]; exact hvs
    · simp only [if_neg e]; exact ho d hd
  · exact hB.trans (F.below (fun b _ hb => by
      rcases hb with e | rfl
      · exact ((hr c hc).lt b e).1
      · exact hl) hB.size)
theorem NumAt.cell {w0 w : World} {pb sb n c : Nat} {P : PostV} {S : Nat → List Msg} {V : Nat → Value} (h : NumAt w0 w pb sb n P S V) (hc : c < n) : w.cell? ⟨sb, c, none⟩ = some (V c) ∧ w.frozen? ⟨sb, c, none⟩ = false :=
  ⟨h.mat.cell c (by simp [hc]), h.mat.free c⟩
theorem NumAt.slice {w0 w : World} {pb sb n c : Nat} {P : PostV} {S : Nat → List Msg} {V : Nat → Value} (h : NumAt w0 w pb sb n P S V) (hc : c < n) : ∃ a k, V c = .slice a (S c).length k ∧ Row w a (cellsL encMsg (S c)) := by
  obtain ⟨a, k, h1, h2, _⟩ := own_slice (h.row c hc)
  exact ⟨a, k, h1, h2⟩
theorem made_slices {m : Nat} : madeCells (Value.slice none 0 0).cells (m * 1) = Array.replicate m (Value.slice none 0 0) := by
  unfold madeCells
  refine Array.ext (by simp) fun i h1 h2 => ?_
  simp [Value.cells, Nat.mod_one]
theorem msgsinfo : (Try.prog.info? 28).map (fun i => (i.zero, i.size, i.bytes)) = some (some (.slice none 0 0), 1, 24) := by kernel_rfl
theorem make_said (m : Nat) (hm : m ≤ 1000) (w : World) : (Instr.makeSlice 55 (.int .i64 (m : Int)) (.int .i64 (m : Int))).run Try.prog w = .ok (.slice (some ⟨w.heap.size, 0, none⟩) m m) (w.alloc (.cells (Array.replicate m (Value.slice none 0 0)) 28)) := by
  obtain ⟨i, hi, hq⟩ := Option.map_eq_some_iff.1 msgsinfo
  simp only [Prod.mk.injEq] at hq
  have := run_make (P := Try.prog) w 55 28 i (.slice none 0 0) Try.underlying55 hi hq.1 .i64 .i64 m m (by omega) (Int.le_refl _) (by rw [hq.2.2]; omega) (by omega)
  rw [hq.2.1, Int.toNat_natCast, made_slices] at this
  exact this
theorem NumAt.start {w0 w1 : World} {pb n : Nat} {P : PostV} (hp : PostAt w1 (fun k => w0.heap.size ≤ k) pb P) (hB : Below w0.heap.size w0 w1) :
    NumAt w0 (w1.alloc (.cells (Array.replicate n (Value.slice none 0 0)) 28)) pb w1.heap.size n P (fun _ => []) (fun _ => .slice none 0 0) := by
  have hb := below_alloc w1 (.cells (Array.replicate n (Value.slice none 0 0)) 28)
  refine ⟨⟨_, hp.now.kept hb, fun k hk => ⟨hk.1, Nat.lt_of_lt_of_le hk.2 hb.size⟩, fun h => Nat.lt_irrefl _ h.2, fun c _ g hg => by (cases hg)⟩, ?_, fun c _ => World.ownsRow_nil _ _ _ _, fun c d _ _ _ g hg => by (cases hg), fun c _ h => by (cases h), hB.size, hB.trans (hb.mono hB.size)⟩
  have e : ((List.range n).map (fun _ => Value.slice none 0 0)).toArray = Array.replicate n (Value.slice none 0 0) := by
    rw [← List.toArray_replicate]
    congr 1
    apply List.ext_getElem <;> simp
  rw [e]
  exact Box.new rfl
end Go.Proofs.Ytfnneghddndeiaa
