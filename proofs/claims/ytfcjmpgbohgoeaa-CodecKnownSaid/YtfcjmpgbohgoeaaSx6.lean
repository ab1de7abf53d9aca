/- SX: every operation. -/
import Derived.Test.YtfcjmpgbohgoeaaSxO
namespace Go.Sx
set_option linter.unusedVariables false
set_option linter.unusedSimpArgs false
open Go.RowKit Go.Tk Go.Lib Go.Shelf Go.Vc
section
variable {P : Program} {s : Nat} {o : Oper} {ev : Ev1} {ρ : Operand → Value} {ε : Env} {H : Heap} {out : Out} {w : World}

/-! ### against nil -/
def nilNe : TypeDesc → SV → SV → Bool
  | .pointer _, .ptr _ _ _, .val (.pointer none) => true
  | .pointer _, .val (.pointer none), .ptr _ _ _ => true
  | .pointer _, .elt _ _ _ _ _, .val (.pointer none) => true
  | .pointer _, .val (.pointer none), .elt _ _ _ _ _ => true
  | .map _ _, .map _ _, .val (.map none) => true
  | .map _ _, .val (.map none), .map _ _ => true
  | .func _ _ _, .fn _ _ _, .val .nilFunc => true
  | .func _ _ _, .val .nilFunc, .fn _ _ _ => true
  | _, _, _ => false
def sCmp (P : Program) (op : BinOp) (t : Nat) (v u : SV) : Option Out := match P.underlying t with
  | some d => bif nilNe d v u then (match op with
      | .eql => some ⟨.val (.bool false), [], [], []⟩
      | .neq => some ⟨.val (.bool true), [], [], []⟩
      | _ => none) else none
  | none => none
theorem nilNe_run {d : TypeDesc} {v u : SV} {t : Nat} (h : nilNe d v u = true) (hd : P.underlying t = some d) (w : World) (m : Nat) : (Op.equalIn (m + 1) t (v.den ε) (u.den ε)).run P w = .ok false w := by
  unfold nilNe at h
  split at h <;> first | (cases h; done) | simp [SV.den, Op.equalIn, run_underlying hd]
theorem nilNe_bin {d : TypeDesc} {v u : SV} {t : Nat} {op : BinOp} {x y : Operand} (h : nilNe d v u = true) (hd : P.underlying t = some d) (w : World) :
    (binOp .eql t (v.den ε) (u.den ε)).run P w = .ok (.bool false) w ∧ (binOp .neq t (v.den ε) (u.den ε)).run P w = .ok (.bool true) w ∧ eqGuard op t x y (v.den ε) (u.den ε) = pure () := by
  have h1 := nilNe_run (ε := ε) h hd w 9999
  unfold nilNe at h
  split at h <;> first
    | (cases h; done)
    | (simp only [SV.den] at h1 ⊢
       refine ⟨?_, ?_, ?_⟩
       · simp [binOp, Op.equal, Op.maxDepth, h1]
       · simp [binOp, Op.equal, Op.maxDepth, h1]
       · cases op <;> simp [eqGuard])
theorem sCmp_ok {op : BinOp} {t t' : Nat} {x y : Operand} {v u : SV} (ho : o.op = .binOp op t x y t') (hx : ρ x = v.den ε) (hy : ρ y = u.den ε) (h : sCmp P op t v u = some out) : Sound P s o ρ ε H out := by
  unfold sCmp at h
  split at h <;> try (cases h; done)
  rename_i d hd
  cases hb : nilNe d v u with
  | false => rw [hb] at h; cases h
  | true =>
    rw [hb] at h
    simp only [cond_true] at h
    split at h <;> try (cases h; done)
    · cases h
      refine sound_pure fun R w hM => ?_
      obtain ⟨h1, -, h3⟩ := nilNe_bin (ε := ε) (op := .eql) (x := x) (y := y) hb hd w
      unfold execOp; rw [ho]
      simp only [hx, hy]
      simp [h1, h3, SV.den, go_sem]
    · cases h
      refine sound_pure fun R w hM => ?_
      obtain ⟨-, h1, h3⟩ := nilNe_bin (ε := ε) (op := .neq) (x := x) (y := y) hb hd w
      unfold execOp; rw [ho]
      simp only [hx, hy]
      simp [h1, h3, SV.den, go_sem]

/-! ### builtins -/
def sBuiltin (P : Program) (s : Nat) (ev : Ev1) (H : Heap) (opt : Opt) (c : Call) (b : Builtin) : Option Out := match b with
  | .len => match c.args.toList with
    | [x] => match ev x, c.argTypes[0]? with
      | some v, some t => sLen P H t v
      | _, _ => none
    | _ => none
  | .append => match c.args.toList, c.argTypes.toList with
    | [x, y], [t, t'] => match ev x, ev y with
      | some v, some u => sApp P s H opt t t' v u
      | _, _ => none
    | _, _ => none
  | _ => none
theorem arr_one {α : Type} {a : Array α} {x : α} (h : a.toList = [x]) : a = #[x] := Array.ext' h
theorem sBuiltin_ok {c : Call} {b : Builtin} (ho : o.op = .call c) (hc : c.callee = .builtin b) {opt : Opt} (h : sBuiltin P s ev H opt c b = some out) (hev : EvOK ev o ρ ε s) (hk : ChkOK out.chk) (hsc : ScOK s H) : Sound P s o ρ ε H out := by
  unfold sBuiltin at h
  split at h <;> try (cases h; done)
  · split at h <;> try (cases h; done)
    rename_i x ha
    split at h <;> try (cases h; done)
    rename_i v t hv ht
    have ha := arr_one ha
    exact sLen_ok ho hc ha ht (hev x (by rw [ho]; simp [Op.operands, Call.operands, hc, ha]) v hv).1 h
  · split at h <;> try (cases h; done)
    rename_i x y t t' ha hat
    split at h <;> try (cases h; done)
    rename_i v u hv hu
    have ha : c.args = #[x, y] := Array.ext' ha
    have hat : c.argTypes = #[t, t'] := Array.ext' hat
    exact sApp_ok ho hc ha hat (hev x (by rw [ho]; simp [Op.operands, Call.operands, hc, ha]) v hv).1 (hev y (by rw [ho]; simp [Op.operands, Call.operands, hc, ha]) u hu).1 hsc h hk

/-! ### every operation -/
def orStill (P : Program) (o : Oper) (ev : Ev1) (x : Option Out) : Option Out := match x with
  | some y => some y
  | none => sStill P o ev
theorem orStill_ok {x : Option Out} (h : orStill P o ev x = some out) (hev : EvOK ev o ρ ε s) (hx : x = some out → Sound P s o ρ ε H out) : Sound P s o ρ ε H out := by
  unfold orStill at h
  split at h
  · cases h; exact hx rfl
  · exact sStill_ok h hev
def ev2 (ev : Ev1) (x y : Operand) (f : SV → SV → Option Out) : Option Out := match ev x with
  | some v => match ev y with
    | some u => f v u
    | none => none
  | none => none
def ev1 (ev : Ev1) (x : Operand) (f : SV → Option Out) : Option Out := match ev x with
  | some v => f v
  | none => none
theorem ev1_some {x : Operand} {f : SV → Option Out} (h : ev1 ev x f = some out) : ∃ v, ev x = some v ∧ f v = some out := by
  unfold ev1 at h
  split at h
  · rename_i v hv; exact ⟨v, hv, h⟩
  · cases h
theorem ev2_some {x y : Operand} {f : SV → SV → Option Out} (h : ev2 ev x y f = some out) : ∃ v u, ev x = some v ∧ ev y = some u ∧ f v u = some out := by
  unfold ev2 at h
  split at h
  · rename_i v hv
    split at h
    · rename_i u hu; exact ⟨v, u, hv, hu, h⟩
    · cases h
  · cases h
def sConv (P : Program) (s : Nat) (H : Heap) (opt : Opt) (src dst : Nat) (v : SV) : Option Out := match sToBytes P s opt src dst v with
  | some x => some x
  | none => sToStr P H opt src dst v
def opN (P : Program) (s : Nat) (o : Oper) (ev : Ev1) (H : Heap) (opt : Opt) : Option Out := match o.op with
  | .move x => sMove ev x
  | .assign x => sMove ev x
  | .pick c x y => sPick ev c x y
  | .alloc t => sAlloc P s t
  | .box _ x => ev1 ev x (sBox s)
  | .build t ps => sBuild P ev t ps
  | .buildSlice t n ps => sBuildS P ev s t n ps
  | .load t x => ev1 ev x (sLoad P H t)
  | .store t x y => ev2 ev x y (sStore P H t)
  | .nilCheck x => orStill P o ev (sNil ev x)
  | .makeFunc f a b => sFunc ev f a b
  | .fieldAddr t x i => orStill P o ev (ev1 ev x (sFieldAddr P t i))
  | .field t x i => ev1 ev x (sField P t i)
  | .extract x i => sExtract ev x i
  | .binOp op t x y _ => orStill P o ev (ev2 ev x y (sCmp P op t))
  | .call c => match c.callee with
    | .builtin b => orStill P o ev (sBuiltin P s ev H opt c b)
    | _ => none
  | .convert a b x => orStill P o ev (ev1 ev x (sConv P s H opt a b))
  | .makeSlice t x y => ev2 ev x y (sMake P s opt t)
  | .indexAddr t x y => ev2 ev x y (sIdx P H opt t)
  | .select _ _ => none
  | _ => sStill P o ev
theorem opN_ok {opt : Opt} (h : opN P s o ev H opt = some out) (hev : EvOK ev o ρ ε s) (hk : ChkOK out.chk) (hsc : ScOK s H) : Sound P s o ρ ε H out := by
  unfold opN at h
  split at h
  · rename_i x ho; exact sMove_ok (.inl ho) h hev
  · rename_i x ho; exact sMove_ok (.inr ho) h hev
  · rename_i c x y ho; exact sPick_ok ho h hev
  · rename_i t ho; exact sAlloc_ok ho h
  · rename_i t x ho
    obtain ⟨v, hv, h⟩ := ev1_some h
    have := hev x (by rw [ho]; simp [Op.operands]) v hv
    exact sBox_ok ho this.1 this.2 h
  · rename_i t ps ho; exact sBuild_ok ho h hev
  · rename_i t n ps ho; exact sBuildS_ok ho h hev
  · rename_i t x ho
    obtain ⟨v, hv, h⟩ := ev1_some h
    exact sLoad_ok ho (hev x (by rw [ho]; simp [Op.operands]) v hv).1 h hk
  · rename_i t x y ho
    obtain ⟨v, u, hv, hu, h⟩ := ev2_some h
    exact sStore_ok ho (hev x (by rw [ho]; simp [Op.operands]) v hv).1 (hev y (by rw [ho]; simp [Op.operands]) u hu).1 h hk
  · rename_i x ho; exact orStill_ok h hev fun h => sNil_ok ho h hev
  · rename_i f a b ho; exact sFunc_ok ho h hev
  · rename_i t x i ho
    refine orStill_ok h hev fun h => ?_
    obtain ⟨v, hv, h⟩ := ev1_some h
    exact sFieldAddr_ok ho (hev x (by rw [ho]; simp [Op.operands]) v hv).1 h
  · rename_i t x i ho
    obtain ⟨v, hv, h⟩ := ev1_some h
    exact sField_ok ho (hev x (by rw [ho]; simp [Op.operands]) v hv).1 h
  · rename_i x i ho; exact sExtract_ok ho h hev
  · rename_i op t x y t' ho
    refine orStill_ok h hev fun h => ?_
    obtain ⟨v, u, hv, hu, h⟩ := ev2_some h
    exact sCmp_ok ho (hev x (by rw [ho]; simp [Op.operands]) v hv).1 (hev y (by rw [ho]; simp [Op.operands]) u hu).1 h
  · rename_i c ho
    split at h <;> try (cases h; done)
    rename_i b hc
    exact orStill_ok h hev fun h => sBuiltin_ok ho hc h hev hk hsc
  · rename_i a b x ho
    refine orStill_ok h hev fun h => ?_
    obtain ⟨v, hv, h⟩ := ev1_some h
    have hx := (hev x (by rw [ho]; simp [Op.operands]) v hv).1
    unfold sConv at h
    split at h
    · rename_i y hy; cases h; exact sToBytes_ok ho hx hy hk
    · exact sToStr_ok ho hx h hk
  · rename_i t x y ho
    obtain ⟨v, u, hv, hu, h⟩ := ev2_some h
    exact sMake_ok ho (hev x (by rw [ho]; simp [Op.operands]) v hv).1 (hev y (by rw [ho]; simp [Op.operands]) u hu).1 h hk
  · rename_i t x y ho
    obtain ⟨v, u, hv, hu, h⟩ := ev2_some h
    exact sIdx_ok ho (hev x (by rw [ho]; simp [Op.operands]) v hv).1 (hev y (by rw [ho]; simp [Op.operands]) u hu).1 h hk
  · cases h
  · exact sStill_ok h hev

/-! ### calls -/
def sCall (P : Program) (cal : Callee P) (r i s : Nat) (ev : Ev1) (H : Heap) (hs : List (Hint P)) (g : Operand) (xs : List Operand) : Option (Out × List (Hint P)) :=
  match ev g with
  | some (.fn (.func q) a c) => match evs ev xs with
    | some vs => bif entersB P q then
        match hs with
        | .call r' i' q' pargs rd pre ret post _ :: rest =>
          bif Nat.beq r r' && (Nat.beq i i' && Nat.beq q q') then (match sCallH H s (a ++ vs ++ c) pargs rd pre ret post with
            | some out => some (out, rest)
            | none => none)
          else cal q (a ++ vs ++ c) H hs s
        | _ => cal q (a ++ vs ++ c) H hs s
      else none
    | none => none
  | _ => none
def isCall (o : Oper) : Option (Operand × List Operand) := match o.op with
  | .call c => match c.callee with
    | .value g => some (g, c.args.toList)
    | _ => none
  | _ => none
def opC (P : Program) (cal : Callee P) (r i s : Nat) (o : Oper) (ev : Ev1) (H : Heap) (hs : List (Hint P)) : Option (Out × List (Hint P)) :=
  match isCall o with
  | some (g, xs) => sCall P cal r i s ev H hs g xs
  | none => match hs with
    | .opt r' i' p :: rest => bif Nat.beq r r' && Nat.beq i i' then (match opN P s o ev H p with
        | some out => some (out, rest)
        | none => none) else (match opN P s o ev H .none with
        | some out => some (out, hs)
        | none => none)
    | _ => match opN P s o ev H .none with
      | some out => some (out, hs)
      | none => none
def sOp (P : Program) (cal : Callee P) (r i s : Nat) (o : Oper) (ev : Ev1) (H : Heap) (hs : List (Hint P)) : Option (Out × List (Hint P)) :=
  match hs with
  | .opc r' i' o' xs pargs rd pre ret post _ _ :: rest => bif Nat.beq r r' && Nat.beq i i' then
      match evs ev xs with
      | some vs => (match sCallH H s vs pargs rd pre ret post with
        | some out => some (⟨out.v, out.upd, out.rd, (.op o, .op o') :: out.chk⟩, rest)
        | none => none)
      | none => none
    else opC P cal r i s o ev H hs
  | .val r' i' a b _ _ :: rest => bif Nat.beq r r' && Nat.beq i i' then
      match opC P cal r i s o ev H rest with
      | some (out, hs') => some (⟨b, out.upd, out.rd, (.sv out.v, .sv a) :: out.chk⟩, hs')
      | none => none
    else opC P cal r i s o ev H hs
  | _ => opC P cal r i s o ev H hs
variable {cal : Callee P} {hs hs' : List (Hint P)} {r i : Nat}
theorem calls_sound {q : Nat} {full : List SV} (hcal : CalleeOK P cal) (h : cal q full H hs s = some (out, hs')) (hk : ChkOK out.chk) (ha : SV.oks (ltB s) full = true) (hsc : ScOK s H) (R : List Chunk) (w : World) (hM : Mem (tden ε H out.touch ++ R) w) :
    Calls P q (SV.dens ε full).toArray w fun e w' => ∃ u, e = .returned u ∧ After ε s H R out u w' := hcal _ _ _ _ _ _ _ h hk ha hsc ε R w hM
theorem sCall_ok {g : Operand} {xs : List Operand} {c : Call} (hcal : CalleeOK P cal) (ho : o.op = .call c) (hc : c.callee = .value g) (hxs : c.args.toList = xs) (h : sCall P cal r i s ev H hs g xs = some (out, hs')) (hev : EvOK ev o ρ ε s) (hk : ChkOK out.chk) (hsc : ScOK s H) : Sound P s o ρ ε H out := by
  unfold sCall at h
  split at h <;> try (cases h; done)
  rename_i q a c' hg
  split at h <;> try (cases h; done)
  rename_i vs hvs
  have hopg : g ∈ o.op.operands := by rw [ho]; simp [Op.operands, Call.operands, hc]
  have hopa : ∀ x ∈ xs, x ∈ o.op.operands := fun x hx => by rw [ho]; simp [Op.operands, Call.operands, hc]; exact .inr (by rw [← hxs] at hx; simpa using hx)
  have h1 := evs_ok (p := ltB s) (ε := ε) (ρ := ρ) hvs fun x hx v hv => hev x (hopa x hx) v hv
  have h2 := hev g hopg _ hg
  have hfull : SV.oks (ltB s) (a ++ vs ++ c') = true := by
    have h3 := h2.2
    simp only [SV.ok, Bool.and_eq_true] at h3
    have h4 := h1.2
    rw [oks_all] at h3 h4 ⊢
    rw [oks_all] at h3
    rw [List.all_append, List.all_append, Bool.and_eq_true, Bool.and_eq_true]
    exact ⟨⟨h3.1, h4⟩, h3.2⟩
  cases he : entersB P q with
  | false => rw [he] at h; cases h
  | true =>
    rw [he] at h
    simp only [cond_true] at h
    intro R w hM
    have hrun : (execOp ρ o).run P w = .ok (.enter q (SV.dens ε (a ++ vs ++ c')).toArray) w := by
      refine x_call (args := (SV.dens ε (a ++ vs ++ c')).toArray) ho hc (h2.1.trans (by simp only [SV.den]; rfl)) ?_ he
      have e : (c.args.map ρ) = (SV.dens ε vs).toArray := by
        apply Array.ext'
        rw [Array.toList_map, hxs, h1.1]
      rw [e, dens_append, dens_append]
      simp
    have fin : ∀ {out : Out}, (Calls P q (SV.dens ε (a ++ vs ++ c')).toArray w fun e w' => ∃ u, e = .returned u ∧ After ε s H R out u w') → Res P (After ε s H R out) ((execOp ρ o).run P w) := fun h => res_in hrun h
    split at h
    · rename_i r' i' q' pargs rd pre ret post hC rest
      cases hb : Nat.beq r r' && (Nat.beq i i' && Nat.beq q q') with
      | false => rw [hb] at h; exact fin (calls_sound hcal h hk hfull hsc R w hM)
      | true =>
        rw [hb] at h
        simp only [cond_true] at h
        split at h <;> try (cases h; done)
        rename_i out' hout
        cases h
        rw [Bool.and_eq_true, Bool.and_eq_true] at hb
        have hq := Nat.eq_of_beq_eq_true hb.2.2
        subst hq
        exact fin (sCallH_ok hC hout hk ε R w hM)
    · exact fin (calls_sound hcal h hk hfull hsc R w hM)
theorem isCall_some {g : Operand} {xs : List Operand} (h : isCall o = some (g, xs)) : ∃ c, o.op = .call c ∧ c.callee = .value g ∧ c.args.toList = xs := by
  unfold isCall at h
  split at h <;> try (cases h; done)
  rename_i c ho
  split at h <;> try (cases h; done)
  rename_i g' hc
  cases h
  exact ⟨c, ho, hc, rfl⟩
theorem opC_ok (hcal : CalleeOK P cal) (h : opC P cal r i s o ev H hs = some (out, hs')) (hev : EvOK ev o ρ ε s) (hk : ChkOK out.chk) (hsc : ScOK s H) : Sound P s o ρ ε H out := by
  unfold opC at h
  split at h
  · rename_i g xs hc
    obtain ⟨c, ho, hc, hxs⟩ := isCall_some hc
    exact sCall_ok hcal ho hc hxs h hev hk hsc
  · split at h
    · rename_i r' i' p rest
      cases hb : Nat.beq r r' && Nat.beq i i' with
      | true =>
        rw [hb] at h
        simp only [cond_true] at h
        split at h <;> try (cases h; done)
        rename_i out' hout
        cases h
        exact opN_ok hout hev hk hsc
      | false =>
        rw [hb] at h
        simp only [cond_false] at h
        split at h <;> try (cases h; done)
        rename_i out' hout
        cases h
        exact opN_ok hout hev hk hsc
    · split at h <;> try (cases h; done)
      rename_i out' hout
      cases h
      exact opN_ok hout hev hk hsc
theorem sOp_ok (hcal : CalleeOK P cal) (h : sOp P cal r i s o ev H hs = some (out, hs')) (hev : EvOK ev o ρ ε s) (hk : ChkOK out.chk) (hsc : ScOK s H) : Sound P s o ρ ε H out := by
  unfold sOp at h
  split at h
  · rename_i r' i' o' xs pargs rd pre ret post hin hC rest
    cases hb : Nat.beq r r' && Nat.beq i i' with
    | false => rw [hb] at h; exact opC_ok hcal h hev hk hsc
    | true =>
      rw [hb] at h
      simp only [cond_true] at h
      split at h <;> try (cases h; done)
      rename_i vs hvs
      split at h <;> try (cases h; done)
      rename_i out' hout
      cases h
      have e1 : o = o' := by have := hk _ List.mem_cons_self; simpa using this
      subst e1
      have h1 := evs_ok (p := ltB s) (ε := ε) (ρ := ρ) hvs fun x hx v hv => hev x (hin x hx) v hv
      exact sOpH_ok hC hout (fun c hc => hk c (List.mem_cons_of_mem _ hc)) ε h1.1
  · rename_i r' i' a b hab hbo rest
    cases hb : Nat.beq r r' && Nat.beq i i' with
    | false => rw [hb] at h; exact opC_ok hcal h hev hk hsc
    | true =>
      rw [hb] at h
      simp only [cond_true] at h
      split at h <;> try (cases h; done)
      rename_i out' hs1 hout
      cases h
      have e1 : out'.v = a := by have := hk _ List.mem_cons_self; simpa using this
      intro R w hM
      have := opC_ok hcal hout hev (fun c hc => hk c (List.mem_cons_of_mem _ hc)) hsc R w hM
      have mono : ∀ u w', After ε s H R out' u w' → After ε s H R ⟨b, out'.upd, out'.rd, (CV.sv out'.v, CV.sv a) :: out'.chk⟩ u w' := fun u w' ⟨x, h1, h2⟩ => ⟨x, by rw [h1, e1]; exact hab _, h2⟩
      generalize (execOp ρ o).run P w = rr at this
      cases rr with
      | halt x w' => simp only [Res] at this
      | ok x w' =>
        cases x <;> simp only [Res] at this ⊢
        case value u => exact mono _ _ this
        case skip => exact mono _ _ this
        case enter f args => exact Calls.mono this fun e w'' ⟨u, h1, h2⟩ => ⟨u, h1, mono _ _ h2⟩
        case row row args => exact Rows.mono this fun u w'' h2 => mono _ _ h2
  · exact opC_ok hcal h hev hk hsc
end
end Go.Sx
