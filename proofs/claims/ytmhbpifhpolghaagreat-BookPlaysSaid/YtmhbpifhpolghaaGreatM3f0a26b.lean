/- Sx5, Zeros. -/
import Derived.Test.YtmhbpifhpolghaaGreatSx4
import Derived.Lib.ConvBytes
import Derived.Laws.BytesArg
set_option maxRecDepth 100000
set_option linter.unusedVariables false
set_option linter.unusedSimpArgs false
set_option linter.unusedSectionVars false
section
namespace Go.Sx
open Go.RowKit Go.Tk Go.Lib Go.Shelf Go.Vc
def CallOK (P : Program) (f : Nat) (args : List SV) (rd pre : Heap) (ret : SV) (post : Heap) : Prop :=
  ∀ ε R w, Mem (hden ε (rd ++ pre) ++ R) w → Calls P f (SV.dens ε args).toArray w fun e w' => ∃ x, e = .returned (ret.den (eset ε 1 x)) ∧ Mem (hden (eset ε 1 x) (rd ++ post) ++ R) w'
def OpOK (P : Program) (o : Oper) (xs : List Operand) (args : List SV) (rd pre : Heap) (ret : SV) (post : Heap) : Prop :=
  ∀ ε ρ R w, xs.map ρ = SV.dens ε args → Mem (hden ε (rd ++ pre) ++ R) w → Res P (fun u w' => ∃ x, u = ret.den (eset ε 1 x) ∧ Mem (hden (eset ε 1 x) (rd ++ post) ++ R) w') ((execOp ρ o).run P w)
def OpG (P : Program) (p : Oper → Bool) (xs : Oper → List Operand) (args : List SV) (rd pre : Heap) (ret : SV) (post : Heap) : Prop :=
  ∀ o, p o = true → (∀ x ∈ xs o, x ∈ o.op.operands) ∧ OpOK P o (xs o) args rd pre ret post
abbrev Asc := List (Nm × Nm)
def look : Asc → Nm → Option Nm
  | [], _ => none
  | (a, b) :: l, n => bif nmB a n then some b else look l n
def bnd (g : Asc) (n m : Nm) : Asc := match look g n with
  | some _ => g
  | none => (n, m) :: g
mutual
def um : SV → SV → Asc → Asc
  | .ptr s k _, v, g => match v with
    | .ptr s' k' _ => bnd g (s, k) (s', k')
    | _ => g
  | .elt s k _ _ _, v, g => match v with
    | .elt s' k' _ _ _ => bnd g (s, k) (s', k')
    | _ => g
  | .raw s k, v, g => match v with
    | .raw s' k' => bnd g (s, k) (s', k')
    | .val (.slice none 0 0) => bnd g (s, k) nilNm
    | _ => g
  | .map s k, v, g => match v with
    | .map s' k' => bnd g (s, k) (s', k')
    | _ => g
  | .any s k, v, g => match v with
    | .any s' k' => bnd g (s, k) (s', k')
    | _ => g
  | .win s k _ _ _, v, g => match v with
    | .win s' k' _ _ _ => bnd g (s, k) (s', k')
    | _ => g
  | .fn _ a b, v, g => match v with
    | .fn _ a' b' => ums b b' (ums a a' g)
    | _ => g
  | .agg cs, v, g => match v with
    | .agg cs' => ums cs cs' g
    | _ => g
  | .tup cs, v, g => match v with
    | .tup cs' => ums cs cs' g
    | _ => g
  | .val _, _, g => g
def ums : List SV → List SV → Asc → Asc
  | [], _, g => g
  | v :: l, l', g => match l' with
    | v' :: l' => ums l l' (um v v' g)
    | [] => g
end
def umC (c d : SC) (g : Asc) : Asc := match c, d with
  | .box _ cs, .box _ cs' => ums cs cs' g
  | .famE cs _, .famE cs' _ => ums cs cs' g
  | .obj es _, .obj es' _ => ums (es.map fun e => e.2.1) (es'.map fun e => e.2.1) g
  | .row _ _ _ (.deep l) _, .row _ _ _ (.deep l') _ => ums l l' g
  | _, _ => g
def umH (H : Heap) : Heap → Asc → Asc
  | [], g => g
  | (n, c) :: l, g => umH H l (umC c (hget H ((look g n).getD n)) g)
def gF (g : Asc) (s : Nat) : Nat → Nat → Nm := fun t k => bif Nat.beq t 1 then (s, k) else (look g (t, k)).getD (t, k)
inductive Opt where
  | none
  | le (n : Nat) (h : n ≤ 1073741824)
  | app (n : Nat) (h : n ≤ 1073741824) (ys : List Value) (h1 : ys.all (·.oneCell') = true)
  | u8 (ys : List Value) (h : ys = (ys.map fun v => match v with
      | .int _ x => x
      | _ => 0).map (Value.int .u8))
  | at_ (p i n : Nat) (e : Int) (h : e = (i : Int) ∧ i < n)
inductive Hint (P : Program) where
  | val (r i : Nat) (a b : SV) (h : ∀ ε : Env, a.den ε = b.den ε) (ok : ∀ p, b.ok p = true)
  | call (r i : Nat) (f : Nat) (args : List SV) (rd pre : Heap) (ret : SV) (post : Heap) (h : CallOK P f args rd pre ret post)
  | opc (r i : Nat) (o : Oper) (xs : List Operand) (args : List SV) (rd pre : Heap) (ret : SV) (post : Heap) (hin : ∀ x ∈ xs, x ∈ o.op.operands) (h : OpOK P o xs args rd pre ret post)
  | opg (r i : Nat) (p : Oper → Bool) (xs : Oper → List Operand) (args : List SV) (rd pre : Heap) (ret : SV) (post : Heap) (h : OpG P p xs args rd pre ret post)
  | opt (r i : Nat) (o : Opt)
  | stop (r : Nat)
def Callee (P : Program) := Nat → List SV → Heap → List (Hint P) → Nat → Option (Out × List (Hint P))
def ScOK (s : Nat) (H : Heap) : Prop := hok (ltB s) H = true
def CalleeOK (P : Program) (cal : Callee P) : Prop := ∀ f args H hs s out hs', cal f args H hs s = some (out, hs') → ChkOK out.chk → SV.oks (ltB s) args = true → ScOK s H →
  ∀ (ε : Env) R w, Mem (tden ε H out.touch ++ R) w → Calls P f (SV.dens ε args).toArray w fun e w' => ∃ u, e = .returned u ∧ After ε s H R out u w'
def nmIn (l : List Nm) (n : Nm) : Bool := l.any fun m => nmB m n
theorem nmIn_iff {l : List Nm} {n : Nm} : nmIn l n = true ↔ n ∈ l := by
  unfold nmIn
  rw [List.any_eq_true]
  constructor
  · rintro ⟨m, hm, h⟩; rw [nmB_iff] at h; rw [← h]; exact hm
  · exact fun h => ⟨n, h, nmB_self n⟩
def ndB : List Nm → Bool
  | [] => true
  | n :: l => !nmIn l n && ndB l
theorem ndB_nodup : ∀ {l : List Nm}, ndB l = true → l.Nodup
  | [], _ => List.nodup_nil
  | n :: l, h => by
    unfold ndB at h
    rw [Bool.and_eq_true] at h
    refine List.nodup_cons.2 ⟨fun hn => ?_, ndB_nodup h.2⟩
    rw [nmIn_iff.2 hn] at h; cases h.1
def lives (g : Nat → Nat → Nm) (l : Heap) : Heap := l.filter fun e => !isNil (g e.1.1 e.1.2)
def row0 : SC → Bool
  | .row _ _ 0 (.deep []) [] => true
  | .row _ _ 0 (.shal []) [] => true
  | _ => false
def nilsOK (g : Nat → Nat → Nm) (l : Heap) : Bool := l.all fun e => !isNil (g e.1.1 e.1.2) || row0 e.2
def namesR (g : Nat → Nat → Nm) (l : Heap) : List Nm := (names (lives g l)).map fun n => g n.1 n.2
def renH (g : Nat → Nat → Nm) (l : Heap) : Heap := (lives g l).map fun e => (g e.1.1 e.1.2, e.2.ren g)
def gone (g : Nat → Nat → Nm) (pre post : Heap) : List Nm := (names (lives g pre)).filter fun n => !nmIn (names post) n
def updOf (g : Nat → Nat → Nm) (pre post : Heap) : Heap := renH g post ++ (gone g pre post).map fun n => (g n.1 n.2, SC.emp)
def chkOf (g : Nat → Nat → Nm) (H : Heap) (l : Heap) : List (CV × CV) := (lives g l).map fun e => (.sc (hget H (g e.1.1 e.1.2)), .sc (e.2.ren g))
def sCallH (H : Heap) (s : Nat) (args pargs : List SV) (rd pre : Heap) (ret : SV) (post : Heap) : Option Out :=
  let G := umH H (rd ++ pre) (ums pargs args [])
  let g := gF G s
  let U := updOf g pre post
  let V := namesR g (rd ++ pre)
  bif Nat.beq args.length pargs.length && (Nat.blt 0 s && (Nat.blt s 1000000000 && (G.all (fun e => Nat.blt e.2.1 s || isNil e.2) && (ret.ok (ltB 2) && (hok (ltB 2) (rd ++ post) && (nilsOK g (rd ++ pre) && (ndB V && V.all (nmIn (names U ++ namesR g rd)))))))))
  then some ⟨ret.ren g, U, namesR g rd, (args.zip pargs).map (fun x => (.sv x.1, .sv (x.2.ren g))) ++ chkOf g H (rd ++ pre)⟩
  else none
theorem look_all {p : Nm → Prop} {n m : Nm} : ∀ {G : Asc}, (∀ e ∈ G, p e.2) → look G n = some m → p m
  | [], _, h => by cases h
  | (a, b) :: l, hG, h => by
    unfold look at h
    cases hb : nmB a n with
    | true => rw [hb] at h; cases h; exact hG (a, _) List.mem_cons_self
    | false => rw [hb] at h; exact look_all (fun e he => hG e (List.mem_cons_of_mem _ he)) h
theorem gF_1 (G : Asc) (s k : Nat) : gF G s 1 k = (s, k) := by unfold gF; rfl
theorem gF_0 {G : Asc} {s : Nat} (h0 : 0 < s) (hG : G.all (fun e => Nat.blt e.2.1 s || isNil e.2) = true) (k : Nat) (hn : isNil (gF G s 0 k) = false) : (gF G s 0 k).1 ≠ s := by
  unfold gF at hn ⊢
  have hn : isNil ((look G (0, k)).getD (0, k)) = false := hn
  show ((look G (0, k)).getD (0, k)).1 ≠ s
  cases hl : look G (0, k) with
  | none => show 0 ≠ s; omega
  | some m =>
    rw [hl] at hn
    have := look_all (p := fun m => (Nat.blt m.1 s || isNil m) = true) (fun e he => List.all_eq_true.1 hG e he) hl
    have hn : isNil m = false := hn
    rw [hn, Bool.or_false, Nat.blt_eq] at this
    show m.1 ≠ s
    omega
theorem ren_split {G : Asc} {s : Nat} (h0 : 0 < s) (h9 : s < 1000000000) (hG : G.all (fun e => Nat.blt e.2.1 s || isNil e.2) = true) (ε : Env) (x : Nat → Rv) (t k : Nat) (ht : ltB 2 t k = true) :
    (eset (gE ε (gF G s)) 1 x) t k = (gE (eset ε s x) (gF G s)) t k := by
  have ht := ltB_iff.1 ht
  rcases (by omega : t = 0 ∨ t = 1) with rfl | rfl
  · rw [eset_ne (by omega)]
    cases hn : isNil (gF G s 0 k) with
    | true => rw [gE_t hn, gE_t hn]
    | false => rw [gE_n hn, gE_n hn, eset_ne (gF_0 h0 hG k hn)]
  · rw [eset_at]
    have hn : isNil (gF G s 1 k) = false := by rw [gF_1]; exact isNil_ne (by show s ≠ _; omega)
    rw [gE_n hn, gF_1, eset_at]
theorem mem_sub {ε : Env} {H : Heap} {U V : List Nm} {R : List Chunk} {w : World} (hV : V.Nodup) (hs : ∀ n ∈ V, n ∈ U) (h : Mem (tden ε H U ++ R) w) : Mem (tden ε H V ++ R) w := by
  induction V generalizing R U with
  | nil => exact mem_app h
  | cons n V ih =>
    rw [List.nodup_cons] at hV
    have hn := hs n List.mem_cons_self
    obtain ⟨A, B, hAB⟩ := List.append_of_mem hn
    subst hAB
    have p : (tden ε H (A ++ n :: B) ++ R).Perm (tden ε H (A ++ B) ++ ((hget H n).den ε n.1 n.2 :: R)) := by
      unfold tden
      simp only [List.map_append, List.map_cons, List.append_assoc, List.cons_append]
      refine List.Perm.append_left _ ?_
      exact List.perm_middle.symm
    have h1 := ih (U := A ++ B) (R := (hget H n).den ε n.1 n.2 :: R) hV.2 (fun m hm => by
      have h2 := hs m (List.mem_cons_of_mem _ hm)
      have h3 : m ≠ n := fun e => hV.1 (e ▸ hm)
      simp only [List.mem_append, List.mem_cons] at h2 ⊢
      rcases h2 with h2 | h2 | h2
      · exact .inl h2
      · exact absurd h2 h3
      · exact .inr h2) (mem_perm p h)
    have q : (tden ε H V ++ ((hget H n).den ε n.1 n.2 :: R)).Perm (tden ε H (n :: V) ++ R) := List.perm_middle
    exact mem_perm q h1
theorem mem_emps {ε : Env} {l : List Nm} {R : List Chunk} {w : World} (h : Mem R w) : Mem (hden ε (l.map fun n => (n, SC.emp)) ++ R) w := by
  induction l with
  | nil => exact h
  | cons n l ih => exact Mem.in_pure trivial ih
theorem zip_chk {g : Nat → Nat → Nm} : ∀ {args pargs : List SV}, args.length = pargs.length → ChkOK ((args.zip pargs).map fun x => (CV.sv x.1, CV.sv (x.2.ren g))) → args = SV.rens g pargs
  | [], [], _, _ => by simp [SV.rens]
  | [], _ :: _, h, _ => by simp at h
  | _ :: _, [], h, _ => by simp at h
  | a :: args, b :: pargs, h, hk => by
    have e1 : a = b.ren g := by have := hk _ List.mem_cons_self; simpa using this
    simp only [SV.rens]
    rw [← e1, ← zip_chk (by simpa using h) fun c hc => hk c (List.mem_cons_of_mem _ hc)]
theorem chk_at {g : Nat → Nat → Nm} {H l : Heap} (hk : ChkOK (chkOf g H l)) {e : Nm × SC} (he : e ∈ lives g l) : hget H (g e.1.1 e.1.2) = e.2.ren g := by
  have := hk _ (List.mem_map_of_mem (f := fun e : Nm × SC => (CV.sc (hget H (g e.1.1 e.1.2)), CV.sc (e.2.ren g))) he)
  simpa using this
theorem row0_of {c : SC} (h : row0 c = true) : ∃ E sz xs, c = .row E sz 0 xs [] ∧ ∀ ε, xs.den ε = [] := by
  unfold row0 at h
  split at h
  · exact ⟨_, _, _, rfl, fun ε => by simp [SL.den, SV.dens]⟩
  · exact ⟨_, _, _, rfl, fun ε => rfl⟩
  · cases h
theorem lives_cons {g : Nat → Nat → Nm} {e : Nm × SC} {l : Heap} : lives g (e :: l) = bif isNil (g e.1.1 e.1.2) then lives g l else e :: lives g l := by
  unfold lives
  rw [List.filter_cons]
  cases isNil (g e.1.1 e.1.2) <;> rfl
theorem mem_ren {g : Nat → Nat → Nm} {ε : Env} {H : Heap} {w : World} : ∀ {l : Heap} {R : List Chunk}, (∀ e ∈ lives g l, hget H (g e.1.1 e.1.2) = e.2.ren g) → nilsOK g l = true → Mem (tden ε H (namesR g l) ++ R) w → Mem (hden (gE ε g) l ++ R) w
  | [], R, _, _, h => h
  | e :: l, R, hat, hn, h => by
    unfold nilsOK at hn
    rw [List.all_cons, Bool.and_eq_true] at hn
    have e0 : namesR g (e :: l) = bif isNil (g e.1.1 e.1.2) then namesR g l else g e.1.1 e.1.2 :: namesR g l := by
      unfold namesR
      rw [lives_cons]
      cases isNil (g e.1.1 e.1.2) <;> rfl
    rw [lives_cons] at hat
    rw [e0] at h
    cases hb : isNil (g e.1.1 e.1.2) with
    | true =>
      rw [hb] at hat h
      have h1 := hn.1
      rw [hb] at h1
      obtain ⟨E, sz, xs0, hc, hx0⟩ := row0_of (by simpa using h1)
      have ih := mem_ren (l := l) hat hn.2 h
      have := Mem.noRow ih E sz
      show Mem (e.2.den (gE ε g) e.1.1 e.1.2 :: (hden (gE ε g) l ++ R)) w
      rw [hc]
      simp only [SC.den, gE_t hb, asSl, hx0]
      exact this
    | false =>
      rw [hb] at hat h
      have h1 := hat e List.mem_cons_self
      have h : Mem ((hget H (g e.1.1 e.1.2)).den ε (g e.1.1 e.1.2).1 (g e.1.1 e.1.2).2 :: (tden ε H (namesR g l) ++ R)) w := h
      rw [h1, SC.den_ren g ε _ _ hb] at h
      have ih := mem_ren (l := l) (R := e.2.den (gE ε g) e.1.1 e.1.2 :: R) (fun y hy => hat y (List.mem_cons_of_mem _ hy)) hn.2 (mem_perm List.perm_middle.symm h)
      exact mem_perm List.perm_middle ih
theorem mem_unren {g : Nat → Nat → Nm} {ε : Env} {w : World} : ∀ {l : Heap} {R : List Chunk}, Mem (hden (gE ε g) l ++ R) w → Mem (hden ε (renH g l) ++ R) w
  | [], R, h => h
  | e :: l, R, h => by
    have h : Mem (e.2.den (gE ε g) e.1.1 e.1.2 :: (hden (gE ε g) l ++ R)) w := h
    have e0 : renH g (e :: l) = bif isNil (g e.1.1 e.1.2) then renH g l else (g e.1.1 e.1.2, e.2.ren g) :: renH g l := by
      unfold renH
      rw [lives_cons]
      cases isNil (g e.1.1 e.1.2) <;> rfl
    rw [e0]
    cases hb : isNil (g e.1.1 e.1.2) with
    | true => exact mem_unren h.tail
    | false =>
      have ih := mem_unren (l := l) (R := e.2.den (gE ε g) e.1.1 e.1.2 :: R) (mem_perm List.perm_middle.symm h)
      rw [← SC.den_ren g ε _ _ hb] at ih
      exact mem_perm List.perm_middle ih
theorem tden_renH {g : Nat → Nat → Nm} {ε : Env} {H l : Heap} (hat : ∀ e ∈ lives g l, hget H (g e.1.1 e.1.2) = e.2.ren g) : tden ε H (namesR g l) = hden ε (renH g l) := by
  unfold tden namesR hden renH names
  rw [List.map_map, List.map_map, List.map_map]
  refine List.map_congr_left fun e he => ?_
  show (hget H (g e.1.1 e.1.2)).den ε (g e.1.1 e.1.2).1 (g e.1.1 e.1.2).2 = _
  rw [hat e he]; rfl
theorem lives_append {g : Nat → Nat → Nm} {a b : Heap} : lives g (a ++ b) = lives g a ++ lives g b := List.filter_append _ _
theorem hden_append {ε : Env} {A B : Heap} : hden ε (A ++ B) = hden ε A ++ hden ε B := by simp [hden]
theorem sCallH_gen {s : Nat} {H : Heap} {args pargs : List SV} {rd pre post : Heap} {ret : SV} {out : Out} (h : sCallH H s args pargs rd pre ret post = some out) (hk : ChkOK out.chk) (ε : Env) (R : List Chunk) (w : World) (hM : Mem (tden ε H out.touch ++ R) w) :
    ∃ ε', SV.dens ε args = SV.dens ε' pargs ∧ Mem (hden ε' (rd ++ pre) ++ R) w ∧ ∀ x w', Mem (hden (eset ε' 1 x) (rd ++ post) ++ R) w' → After ε s H R out (ret.den (eset ε' 1 x)) w' := by
  unfold sCallH at h
  simp only at h
  generalize hG : umH H (rd ++ pre) (ums pargs args []) = G at h
  cases hc : (Nat.beq args.length pargs.length && (Nat.blt 0 s && (Nat.blt s 1000000000 && (G.all (fun e => Nat.blt e.2.1 s || isNil e.2) && (ret.ok (ltB 2) && (hok (ltB 2) (rd ++ post) && (nilsOK (gF G s) (rd ++ pre) && (ndB (namesR (gF G s) (rd ++ pre)) && (namesR (gF G s) (rd ++ pre)).all (nmIn (names (updOf (gF G s) pre post) ++ namesR (gF G s) rd)))))))))) with
  | false => rw [hc] at h; cases h
  | true =>
    rw [hc] at h; cases h
    simp only [Bool.and_eq_true] at hc
    obtain ⟨c1, c2, c2', c3, c4, c5, c5', c6, c7⟩ := hc
    have c1 := Nat.eq_of_beq_eq_true c1
    have c2 : 0 < s := by rwa [Nat.blt_eq] at c2
    have c2' : s < 1000000000 := by rwa [Nat.blt_eq] at c2'
    have hsp := fun x t k ht => ren_split c2 c2' c3 ε x t k ht
    have hargs := zip_chk c1 hk.left
    have hat := fun e he => chk_at (e := e) hk.right he
    generalize hgg : gF G s = g at *
    have hM1 := mem_sub (ndB_nodup c6) (fun n hn => nmIn_iff.1 (List.all_eq_true.1 c7 n hn)) hM
    have hM2 := mem_ren hat c5' hM1
    refine ⟨_, by rw [hargs, SV.dens_ren], hM2, fun x w' hm => ?_⟩
    refine ⟨x, ?_, ?_⟩
    · show _ = (ret.ren g).den (eset ε s x)
      rw [SV.den_ren]
      exact SV.den_congr (hsp x) _ c4
    · rw [hden_congr (hsp x) c5] at hm
      show Mem (hden (eset ε s x) (updOf g pre post) ++ (tden (eset ε s x) H (namesR g rd) ++ R)) w'
      rw [tden_renH (l := rd) fun e he => hat e (by rw [lives_append]; exact List.mem_append_left _ he)]
      unfold updOf
      rw [hden_append]
      have hm2 := mem_unren hm
      have e0 : renH g (rd ++ post) = renH g rd ++ renH g post := by unfold renH; rw [lives_append, List.map_append]
      rw [e0, hden_append] at hm2
      have hm3 := mem_emps (ε := eset ε s x) (l := (gone g pre post).map fun n => g n.1 n.2) hm2
      rw [List.map_map] at hm3
      refine mem_perm ?_ hm3
      generalize hden (eset ε s x) (renH g rd) = A
      generalize hden (eset ε s x) (renH g post) = B
      have e : ((fun n : Nm => (n, SC.emp)) ∘ fun n : Nm => g n.1 n.2) = fun n : Nm => (g n.1 n.2, SC.emp) := rfl
      rw [e]
      generalize hden (eset ε s x) ((gone g pre post).map fun n => (g n.1 n.2, SC.emp)) = C
      have p1 : (C ++ ((A ++ B) ++ R)).Perm ((A ++ (B ++ R)) ++ C) := by
        rw [List.append_assoc]; exact List.perm_append_comm
      have p2 : ((A ++ (B ++ R)) ++ C).Perm (B ++ (A ++ (R ++ C))) := by
        simp only [List.append_assoc]
        rw [← List.append_assoc, ← List.append_assoc B]
        exact List.Perm.append_right _ List.perm_append_comm
      have p3 : (B ++ (A ++ (R ++ C))).Perm ((B ++ C) ++ (A ++ R)) := by
        rw [List.append_assoc]
        refine List.Perm.append_left B ?_
        rw [← List.append_assoc]
        exact List.perm_append_comm
      exact p1.trans (p2.trans p3)
theorem sCallH_ok {P : Program} {f s : Nat} {H : Heap} {args pargs : List SV} {rd pre post : Heap} {ret : SV} {out : Out} (hC : CallOK P f pargs rd pre ret post) (h : sCallH H s args pargs rd pre ret post = some out) (hk : ChkOK out.chk) (ε : Env) (R : List Chunk) (w : World) (hM : Mem (tden ε H out.touch ++ R) w) :
    Calls P f (SV.dens ε args).toArray w fun e w' => ∃ u, e = .returned u ∧ After ε s H R out u w' := by
  obtain ⟨ε', h1, h2, h3⟩ := sCallH_gen h hk ε R w hM
  rw [h1]
  refine (hC ε' R w h2).mono ?_
  rintro e w' ⟨x, rfl, hm⟩
  exact ⟨_, rfl, h3 x w' hm⟩
theorem sOpH_ok {P : Program} {s : Nat} {o : Oper} {ρ : Operand → Value} {xs : List Operand} {H : Heap} {args pargs : List SV} {rd pre post : Heap} {ret : SV} {out : Out} (hC : OpOK P o xs pargs rd pre ret post) (h : sCallH H s args pargs rd pre ret post = some out) (hk : ChkOK out.chk) (ε : Env) (hx : xs.map ρ = SV.dens ε args) : Sound P s o ρ ε H out := by
  intro R w hM
  obtain ⟨ε', h1, h2, h3⟩ := sCallH_gen h hk ε R w hM
  have := hC ε' ρ R w (hx.trans h1) h2
  have mono : ∀ u w', (∃ x, u = ret.den (eset ε' 1 x) ∧ Mem (hden (eset ε' 1 x) (rd ++ post) ++ R) w') → After ε s H R out u w' := fun u w' ⟨x, h, hm⟩ => by rw [h]; exact h3 x w' hm
  generalize (execOp ρ o).run P w = rr at this
  cases rr with
  | halt x w' => simp only [Res] at this
  | ok x w' =>
    cases x <;> simp only [Res] at this ⊢
    case value u => exact mono _ _ this
    case skip => exact mono _ _ this
    case enter f args => exact Calls.mono this fun e w'' ⟨u, h1, h2⟩ => ⟨u, h1, mono _ _ h2⟩
    case row row args => exact Rows.mono this fun u w'' h2 => mono _ _ h2
end Go.Sx
end
section
namespace Go.Vc
open Go.RowKit Go.Tk Go.Lib Go.Shelf
section
variable {P : Program} (w : World)
end
def bytesOf (s : ByteArray) : List Int := s.data.toList.map fun b => (b.toNat : Int)
def ofBytes (l : List Int) : ByteArray := ⟨(l.map fun x => UInt8.ofNat x.toNat).toArray⟩
theorem Mem.toBytes {P : Program} {cs : List Chunk} {w : World} (h : Mem cs w) {src dst e : TypeId} (s : ByteArray) (hs : P.underlying src = some .string) (hd : P.underlying dst = some (.slice e)) (he : P.underlying e = some (.int .u8)) (hl : s.size ≤ maxLen) :
    ∃ v' w', (convert src dst (.string s)).run P w = .ok v' w' ∧ Mem (rowC e 1 v' s.size ((bytesOf s).map (.int .u8)) :: cs) w' := by
  refine ⟨_, _, Go.Lib.run_convert_string_bytes w src dst e s hs hd he, ?_⟩
  have hb : Below w.heap.size w (bytesWorld w e s) := ⟨rfl, rfl, rfl, by simp [bytesWorld, World.freeze, World.alloc, World.drew, -World.alloc_eq, -World.drew_eq], fun k hk => bytesWorld_at_old w e s k hk⟩
  have hn := bytesWorld_at_new w e s
  refine h.fresh hb (fun k => k = w.heap.size) ⟨fun g hg => by cases hg; rfl, ?_, .inr ⟨w.heap.size, _, bytesCells w e s, rfl, ⟨e, _, (fun x hx => by cases hx; rfl), hn, fun o ho hh => by simp at hh; omega⟩, grownCap_ge w s.size 0 e, grownCap_le_maxLen w s.size 0 e hl, ?_, ?_⟩⟩ (fun k hk => ⟨by rw [hk]; exact Nat.le_refl _, by rw [hk]; exact (Array.getElem?_eq_some_iff.1 hn).1⟩)
  · simp [bytesOf]
  · have := grownCap_ge w s.size 0 e
    simp only [bytesCells, Array.size_append, Array.size_map, Array.size_replicate]
    show s.size + _ = _
    omega
  · unfold bytesCells
    rw [Array.toList_append, Nat.mul_one, List.take_left' (by simp)]
    simp [bytesOf]
theorem run_convert_bytes_zero' {P : Program} (w : World) (src dst e : TypeId) (a : Addr) (c : Nat) (hs : P.underlying src = some (.slice e)) (he : P.underlying e = some (.int .u8)) (hd : P.underlying dst = some .string) :
    (convert src dst (.slice (some a) 0 c)).run P w = .ok (.string ByteArray.empty) w := by
  have := run_convert_bytes_back (P := P) w src dst e a c [] hs he hd (fun j hj => by simp at hj)
  exact this
theorem run_ofBytes {P : Program} {w : World} {src dst e : TypeId} {a : Option Addr} {n c : Nat} {xs : List Int} (hs : P.underlying src = some (.slice e)) (he : P.underlying e = some (.int .u8)) (hd : P.underlying dst = some .string) (hn : xs.length = n) (hr : Row w a (xs.map (.int .u8))) :
    (convert src dst (.slice a n c)).run P w = .ok (.string (ofBytes xs)) w := by
  cases a with
  | none =>
    have hx : xs = [] := by
      cases hxs : xs with
      | nil => rfl
      | cons y r => subst hxs; obtain ⟨b, off, h, -⟩ := hr 0 (by simp); cases h
    subst hx
    rw [run_convert_bytes_nil (P := P) w src e hs he n c dst hd]
    rfl
  | some ad =>
    by_cases hx : xs = []
    · subst hx
      have hn0 : n = 0 := hn.symm
      subst hn0
      rw [run_convert_bytes_zero' w src dst e ad c hs he hd]
      rfl
    · obtain ⟨b, off, hab, -⟩ := hr 0 (by simp; exact List.length_pos_iff.2 hx)
      cases hab
      have := run_convert_bytes_arg (P := P) w src e hs he b off n c xs hn (fun i hi => by
        obtain ⟨b', off', e', hc⟩ := hr i (by simp; omega)
        cases e'
        rw [hc, List.getD_eq_getElem?_getD, List.getElem?_map, List.getD_eq_getElem?_getD, List.getElem?_eq_getElem (by omega)]
        rfl) dst hd
      rw [this]; rfl
section
variable {P : Program} {w : World} {ρ : Operand → Value} {o : Oper}
theorem x_convert {s d : TypeId} {x : Operand} {v u : Value} {w' : World} (ho : o.op = .convert s d x) (hx : ρ x = v) (hr : (convert s d v).run P w = .ok u w') : (execOp ρ o).run P w = .ok (.value u) w' := by
  unfold execOp; rw [ho]; simp [hx, hr]
end
end Go.Vc
end
