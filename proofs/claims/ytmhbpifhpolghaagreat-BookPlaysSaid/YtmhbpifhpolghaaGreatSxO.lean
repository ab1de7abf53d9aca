/- SX: append, texts and bytes, new slices, elements. -/
import Derived.Test.YtmhbpifhpolghaaGreatM3f0a26b
import Derived.Deep.AppendSrc
import Derived.Deep.Upon
namespace Go.Sx
set_option linter.unusedVariables false
set_option linter.unusedSimpArgs false
open Go.RowKit Go.Tk Go.Lib Go.Shelf Go.Vc
def optN (opt : Opt) (N : Nat) : Option (List (CV × CV)) := match opt with
  | .le n _ => some [(.nat N, .nat n)]
  | .app n _ _ _ => some [(.nat N, .nat n)]
  | _ => bif Nat.ble N 1073741824 then some [] else Option.none
def optY (opt : Opt) (ys : SL) : Option (List (CV × CV)) := match ys with
  | .deep l => bif l.all SV.one then some [] else Option.none
  | .shal l => match opt with
    | .app _ _ zs _ => some [(.sv (.val (.tuple l.toArray)), .sv (.val (.tuple zs.toArray)))]
    | _ => bif l.all (·.oneCell') then some [] else Option.none
theorem optN_ok {opt : Opt} {N : Nat} {c : List (CV × CV)} (h : optN opt N = some c) (hk : ChkOK c) : N ≤ 1073741824 := by
  unfold optN at h
  split at h
  · rename_i n hn; cases h; have := hk _ List.mem_cons_self; have e : N = n := by simpa using this
    omega
  · rename_i n hn _ _; cases h; have := hk _ List.mem_cons_self; have e : N = n := by simpa using this
    omega
  · cases hb : Nat.ble N 1073741824 with
    | true => exact Nat.le_of_ble_eq_true hb
    | false => rw [hb] at h; cases h
theorem optY_ok {opt : Opt} {ys : SL} {c : List (CV × CV)} (h : optY opt ys = some c) (hk : ChkOK c) (ε : Env) : (ys.den ε).all (·.oneCell') = true := by
  unfold optY at h
  split at h
  · rename_i l
    cases hb : l.all SV.one with
    | true => exact dens_one hb
    | false => rw [hb] at h; cases h
  · rename_i l
    split at h
    · rename_i zs h1
      cases h
      have := hk _ List.mem_cons_self
      have e : l = zs := by
        have e1 : l.toArray = zs.toArray := by simpa using this
        have := congrArg Array.toList e1
        simpa using this
      show l.all _ = true
      rw [e]; exact h1
    · cases hb : l.all (·.oneCell') with
      | true => exact hb
      | false => rw [hb] at h; cases h
def catL (xs ys : SL) : Option SL := match xs, ys with
  | .deep a, .deep b => some (.deep (a ++ b))
  | .shal a, .shal b => some (.shal (a ++ b))
  | .shal a, .deep b => match plains b with
    | some vs => some (.shal (a ++ vs))
    | none => none
  | .deep a, .shal b => match plains a with
    | some vs => some (.shal (vs ++ b))
    | none => none
theorem catL_den {xs ys zs : SL} (h : catL xs ys = some zs) (ε : Env) : zs.den ε = xs.den ε ++ ys.den ε := by
  unfold catL at h
  split at h
  · cases h; exact dens_append ε _ _
  · cases h; rfl
  · split at h <;> try (cases h; done)
    rename_i vs hvs
    cases h
    show _ = _ ++ SV.dens ε _
    rw [plains_den ε _ vs hvs]; rfl
  · split at h <;> try (cases h; done)
    rename_i vs hvs
    cases h
    show _ = SV.dens ε _ ++ _
    rw [plains_den ε _ vs hvs]; rfl
section
variable {P : Program} {s : Nat} {o : Oper} {ev : Ev1} {ρ : Operand → Value} {ε : Env} {H : Heap} {out : Out} {w : World}
theorem apps_src (t tx ty e : TypeId) (size bytes n m : Nat) (z : Value) (ht : P.underlying t = some (.slice e)) (hinfo : (P.info? e).map (fun i => (i.zero, i.size, i.bytes)) = some (some z, size, bytes))
    {src : Value} {news : List Value} (hs : Go.Src P size tx src m news w) (h63 : n + m ≤ maxLen) (hbytes : (n + m) * bytes ≤ 140737488355328) : Apps P #[t, tx] ty e size z src n m news w := by
  obtain ⟨i, hi, hz, hz1, hz2⟩ := info_parts hinfo
  subst hz1
  subst hz2
  have hsmall : n + m ≤ 9223372036854775807 := by simp only [maxLen] at h63; omega
  have hfit : ∀ old, old < n + m → Builtin.nextslicecap (n + m) old * i.bytes ≤ 281474976710656 := fun old ho => by
    have h2 := nextslicecap_le (need := n + m) (old := old) (by omega)
    have h3 : Builtin.nextslicecap (n + m) old * i.bytes ≤ 2 * (n + m) * i.bytes := Nat.mul_le_mul_right _ h2
    have h4 : 2 * (n + m) * i.bytes = 2 * ((n + m) * i.bytes) := Nat.mul_assoc _ _ _
    omega
  refine ⟨hs.newsLen, List.all_eq_true.2 hs.one, fun hm => ?_, fun hn hm => ?_, fun g cap w' hroom hst => ?_, fun g cap olds hlo holds hnc hgr => ?_⟩
  · subst hm
    have hn : news = [] := List.eq_nil_of_length_eq_zero (by rw [hs.newsLen]; simp)
    subst hn
    exact run_append_nothing w t tx ty e i ht hi none 0 0 (Nat.le_refl _) src hs
  · subst hn
    have := run_append_grow_src (P := P) w t tx ty e i z ht hi hz none 0 0 [] (run_firstCells_none w.drew i.size 0 0 0) src m news hs (by omega) (by omega) (hfit 0 (by omega))
    simpa using this
  · rcases hs.kind with ⟨e', hk⟩ | hk <;> simp [Builtin.append_, run_underlying ht, run_underlying hk, sizeOf, typeInfo, hi, hs.len, hroom, hs.cells, Addr.add_lit, hst]
  · have := run_append_grow_src (P := P) w t tx ty e i z ht hi hz (some ⟨g, 0, none⟩) n cap olds (run_firstCells_some w.drew i.size n ⟨g, 0, none⟩ n cap olds hlo (by simpa using holds)) src m news hs hgr (by omega) (hfit cap hgr)
    simpa using this
def appDst (H : Heap) (e size : Nat) (x : SV) : Option (Nat × SL × List Nm) := match x with
  | .val (.slice none 0 0) => some (0, .deep [], [])
  | .raw s k => match hget H (s, k) with
    | .row E sz n xs _ => bif Nat.beq E e && Nat.beq sz size then some (n, xs, [(s, k)]) else none
    | _ => none
  | _ => none
def isStr (P : Program) (t : Nat) : Bool := match P.underlying t with
  | some .string => true
  | _ => false
def isSlc (P : Program) (t : Nat) : Bool := match P.underlying t with
  | some (.slice _) => true
  | _ => false
def appSrc (P : Program) (H : Heap) (size t' : Nat) (y : SV) : Option (Nat × SL × List Nm) := match y with
  | .val (.slice none 0 0) => bif isSlc P t' then some (0, .deep [], []) else none
  | .raw s k => match hget H (s, k) with
    | .row _ sz m ys _ => bif Nat.beq sz size && isSlc P t' then some (m, ys, [(s, k)]) else none
    | _ => none
  | .val (.string str) => bif Nat.beq size 1 && isStr P t' then some (str.size, .shal (byteCells str), []) else none
  | _ => none
def sApp (P : Program) (s : Nat) (H : Heap) (opt : Opt) (t t' : Nat) (x y : SV) : Option Out := match P.underlying t with
  | some (.slice e) => match P.info? e with
    | some i => match i.zero with
      | some z => bif Nat.beq z.cells.size i.size && (Nat.blt 0 i.size && Nat.ble i.bytes 131072) then
          match appDst H e i.size x with
          | some (n, xs, xn) => match appSrc P H i.size t' y with
            | some (m, ys, yn) => match optN opt (n + m) with
              | some c1 => match optY opt ys with
                | some c2 => match catL xs ys with
                  | some zs => some ⟨.raw s 0, ((s, 0), .row e i.size (n + m) zs []) :: xn.map (fun q => (q, SC.emp)), yn, c1 ++ c2⟩
                  | none => none
                | none => none
              | none => none
            | none => none
          | none => none
        else none
      | none => none
    | none => none
  | _ => none
theorem hget_names {n : Nm} (h : hget H n ≠ .emp) : n ∈ names H := by
  by_cases hn : n ∈ names H
  · exact hn
  · exact absurd (hget_none hn) h
theorem row_scope (hsc : ScOK s H) {s' k E sz n : Nat} {xs : SL} {ws : List (Nat × Nat × List SV)} (hg : hget H (s', k) = .row E sz n xs ws) : s' < s ∧ xs.ok (ltB s) = true ∧ (SC.row E sz n xs ws).ok (ltB s) = true := by
  have := hok_get hsc (n := (s', k)) (hget_names (by rw [hg]; intro h; cases h))
  rw [hg] at this
  refine ⟨ltB_iff.1 this.1, ?_, this.2⟩
  have h2 := this.2
  simp only [SC.ok, Bool.and_eq_true] at h2
  exact h2.1
theorem asSl_self {E size n : Nat} {v : Value} {xs : List Value} (h : RowF E size w v n xs) : asSl v = v := by
  obtain ⟨a, c, rfl, -⟩ := h.row; rfl
theorem sApp_ok {opt : Opt} {t t' : Nat} {x y : Operand} {c : Call} {v u : SV} (ho : o.op = .call c) (hc : c.callee = .builtin .append) (ha : c.args = #[x, y]) (hat : c.argTypes = #[t, t']) (hx : ρ x = v.den ε) (hy : ρ y = u.den ε) (hsc : ScOK s H) (h : sApp P s H opt t t' v u = some out) (hk : ChkOK out.chk) : Sound P s o ρ ε H out := by
  unfold sApp at h
  split at h <;> try (cases h; done)
  rename_i e hu
  split at h <;> try (cases h; done)
  rename_i i hi
  split at h <;> try (cases h; done)
  rename_i z hz
  cases hb : Nat.beq z.cells.size i.size && (Nat.blt 0 i.size && Nat.ble i.bytes 131072) with
  | false => rw [hb] at h; cases h
  | true =>
    rw [hb] at h
    simp only [cond_true] at h
    split at h <;> try (cases h; done)
    rename_i n xs xn hdst
    split at h <;> try (cases h; done)
    rename_i m ys yn hsrc
    split at h <;> try (cases h; done)
    rename_i c1 hc1
    split at h <;> try (cases h; done)
    rename_i c2 hc2
    split at h <;> try (cases h; done)
    rename_i zs hcat
    cases h
    rw [Bool.and_eq_true, Bool.and_eq_true] at hb
    have b1 := Nat.eq_of_beq_eq_true hb.1
    have b2 : 0 < i.size := by have := hb.2.1; rwa [Nat.blt_eq] at this
    have b3 := Nat.le_of_ble_eq_true hb.2.2
    have hN := optN_ok hc1 hk.left
    have hO := optY_ok hc2 hk.right ε
    have hinfo : (P.info? e).map (fun i => (i.zero, i.size, i.bytes)) = some (some z, i.size, i.bytes) := by rw [hi, Option.map_some, hz]
    have h63 : n + m ≤ maxLen := Nat.le_trans hN maxLen_big
    have hby : (n + m) * i.bytes ≤ 140737488355328 := Nat.le_trans (Nat.mul_le_mul hN b3) (by decide)
    intro R w hM
    have e1 : names (((s, 0), SC.row e i.size (n + m) zs []) :: xn.map (fun q => (q, SC.emp))) = (s, 0) :: xn := by
      simp [names, List.map_map, Function.comp_def]
    have hM1 : Mem (tden ε H ((s, 0) :: xn ++ yn) ++ R) w := by
      have := hM
      unfold Out.touch at this
      rwa [e1] at this
    clear hM
    have hM : Mem (tden ε H xn ++ (tden ε H yn ++ R)) w := by
      unfold tden at hM1 ⊢
      simp only [List.cons_append, List.map_cons, List.map_append, List.append_assoc] at hM1
      exact hM1.tail
    clear hM1
    obtain ⟨hM, hxs⟩ : Mem (rowC e i.size (v.den ε) n (xs.den ε) :: (tden ε H yn ++ R)) w ∧ xs.ok (ltB s) = true := by
      unfold appDst at hdst
      split at hdst
      · cases hdst
        refine ⟨?_, by simp [SL.ok, SV.oks]⟩
        have := Mem.noRow hM e i.size
        simpa [SV.den, SL.den, SV.dens, tden] using this
      · rename_i s' k
        split at hdst <;> try (cases hdst; done)
        rename_i E sz n' xs' ws hg
        cases hbb : Nat.beq E e && Nat.beq sz i.size with
        | false => rw [hbb] at hdst; cases hdst
        | true =>
          rw [hbb] at hdst; cases hdst
          rw [Bool.and_eq_true] at hbb
          have q1 := Nat.eq_of_beq_eq_true hbb.1
          have q2 := Nat.eq_of_beq_eq_true hbb.2
          subst q1
          subst q2
          refine ⟨?_, (row_scope hsc hg).2.1⟩
          simp only [tden, List.map_cons, List.map_nil, hg, List.cons_append, List.nil_append] at hM
          have := row_plain hM
          simp only [SV.den]
          exact this
      · cases hdst
    have hS : Go.Src P i.size t' (u.den ε) m (ys.den ε) w ∧ ∀ x, tden (eset ε s x) H yn = tden ε H yn := by
      unfold appSrc at hsrc
      split at hsrc
      · cases hq : isSlc P t' with
        | false => rw [hq] at hsrc; cases hsrc
        | true =>
          rw [hq] at hsrc; cases hsrc
          unfold isSlc at hq
          split at hq <;> try (cases hq; done)
          rename_i e' he'
          exact ⟨by simpa [SV.den, SL.den, SV.dens] using Go.Src.ofNil (P := P) w (size := i.size) he' 0, fun x => rfl⟩
      · rename_i s' k
        split at hsrc <;> try (cases hsrc; done)
        rename_i E sz m' ys' ws hg
        cases hq : Nat.beq sz i.size && isSlc P t' with
        | false => rw [hq] at hsrc; cases hsrc
        | true =>
          rw [hq] at hsrc; cases hsrc
          rw [Bool.and_eq_true] at hq
          have q1 := Nat.eq_of_beq_eq_true hq.1
          subst q1
          have hq2 := hq.2
          unfold isSlc at hq2
          split at hq2 <;> try (cases hq2; done)
          rename_i e' he'
          have hsco := row_scope hsc hg
          refine ⟨?_, fun x => ?_⟩
          · simp only [tden, List.map_cons, List.map_nil, hg, List.cons_append, List.nil_append] at hM
            have hr := (row_den hM.tail).1
            obtain ⟨a, cp, hv, hrow, -⟩ := hr.row
            simp only [SV.den]
            rw [hv]
            cases a with
            | some ad => exact Go.Src.ofSlice (P := P) w he' ad m cp _ hr.1 (fun j u' hj => by
                have hjl := (List.getElem?_eq_some_iff.1 hj).1
                obtain ⟨b, off, hab, hcell⟩ := hrow j hjl
                cases hab
                have : (Addr.add ⟨b, off, none⟩ j) = ⟨b, off + j, none⟩ := addr_add b off j
                rw [this, hcell, List.getD_eq_getElem?_getD, hj]; rfl) (fun u' hu' => List.all_eq_true.1 hO u' hu')
            | none =>
              have hy0 : ys.den ε = [] := by
                cases hd : ys.den ε with
                | nil => rfl
                | cons q l => rw [hd] at hrow; obtain ⟨b, off, h, -⟩ := hrow 0 (by simp); cases h
              have hm0 : m = 0 := by
                have h0 : m * i.size = 0 := by have := hr.1; rw [hy0] at this; simpa using this.symm
                rcases Nat.mul_eq_zero.1 h0 with h | h
                · exact h
                · omega
              subst hm0
              rw [hy0]
              exact Go.Src.ofNil (P := P) w he' cp
          · simp only [tden, List.map_cons, List.map_nil, hg]
            rw [scden_eset (n := (s', k)) hsco.1 hsco.2.2]
      · rename_i str
        cases hq : Nat.beq i.size 1 && isStr P t' with
        | false => rw [hq] at hsrc; cases hsrc
        | true =>
          rw [hq] at hsrc; cases hsrc
          rw [Bool.and_eq_true] at hq
          have q1 := Nat.eq_of_beq_eq_true hq.1
          have hq2 := hq.2
          unfold isStr at hq2
          split at hq2 <;> try (cases hq2; done)
          rename_i he'
          refine ⟨?_, fun x => rfl⟩
          rw [q1]
          simp only [SV.den]
          exact Go.Src.ofString (P := P) w he' str
      · cases hsrc
    have hA := apps_src (P := P) t t' o.type e i.size i.bytes n m z hu hinfo hS.1 h63 hby
    obtain ⟨v', w', hr, hm⟩ := Mem.apps hM 0 rfl hA b1 h63
    have hm : Mem (rowC e i.size v' (n + m) (xs.den ε ++ ys.den ε) :: (tden ε H yn ++ R)) w' := hm
    have hv' : asSl v' = v' := asSl_self (hm.owns 0 rfl)
    refine res_ok (x_append ho hc ha hat hx hy hr) ⟨fun _ => (0, v'), by simp only [SV.den, eset_at]; exact hv'.symm, ?_⟩
    show Mem (hden (eset ε s _) (((s, 0), SC.row e i.size (n + m) zs []) :: xn.map (fun q => (q, SC.emp))) ++ (tden (eset ε s _) H yn ++ R)) w'
    rw [hS.2]
    have hxs' : ∀ x, xs.den (eset ε s x) = xs.den ε := fun x => SL.den_congr (fun t k ht => eset_ne' (by have := ltB_iff.1 ht; omega)) xs hxs
    have hys : ∀ x, ys.den (eset ε s x) = ys.den ε := fun x => by
      unfold appSrc at hsrc
      split at hsrc
      · cases hq : isSlc P t' with
        | false => rw [hq] at hsrc; cases hsrc
        | true => rw [hq] at hsrc; cases hsrc; rfl
      · rename_i s' k
        split at hsrc <;> try (cases hsrc; done)
        rename_i E sz m' ys' ws hg
        cases hq : Nat.beq sz i.size && isSlc P t' with
        | false => rw [hq] at hsrc; cases hsrc
        | true => rw [hq] at hsrc; cases hsrc; exact SL.den_congr (fun t k ht => eset_ne' (by have := ltB_iff.1 ht; omega)) _ (row_scope hsc hg).2.1
      · cases hq : Nat.beq i.size 1 && isStr P t' with
        | false => rw [hq] at hsrc; cases hsrc
        | true => rw [hq] at hsrc; cases hsrc; rfl
      · cases hsrc
    have hfin : Mem (rowC e i.size v' (n + m) (xs.den ε ++ ys.den ε) :: (hden (eset ε s fun _ => (0, v')) (xn.map fun q => (q, SC.emp)) ++ (tden ε H yn ++ R))) w' := by
      have := mem_emps (ε := eset ε s fun _ => (0, v')) (l := xn) hm
      exact mem_perm List.perm_middle this
    simp only [hden, List.map_cons, SC.den, List.cons_append, eset_at, hv']
    rw [catL_den hcat, hxs', hys]
    exact hfin
def sToBytes (P : Program) (s : Nat) (opt : Opt) (src dst : Nat) (x : SV) : Option Out := match x with
  | .val (.string str) => match P.underlying src, P.underlying dst with
    | some .string, some (.slice e) => match P.underlying e with
      | some (.int .u8) => match optN opt str.size with
        | some c => some ⟨.raw s 0, [((s, 0), .row e 1 str.size (.shal (byteCells str)) [])], [], c⟩
        | none => none
      | _ => none
    | _, _ => none
  | _ => none
theorem sToBytes_ok {opt : Opt} {src dst : Nat} {x : Operand} {v : SV} (ho : o.op = .convert src dst x) (hx : ρ x = v.den ε) (h : sToBytes P s opt src dst v = some out) (hk : ChkOK out.chk) : Sound P s o ρ ε H out := by
  unfold sToBytes at h
  split at h <;> try (cases h; done)
  rename_i str
  split at h <;> try (cases h; done)
  rename_i e hs hd
  split at h <;> try (cases h; done)
  rename_i he
  split at h <;> try (cases h; done)
  rename_i c hc
  cases h
  have hN := optN_ok hc hk
  intro R w hM
  obtain ⟨v', w', hr, hm⟩ := Mem.toBytes (P := P) (mem_app hM) str hs hd he (Nat.le_trans hN maxLen_big)
  have hv' : asSl v' = v' := asSl_self (hm.owns 0 rfl)
  refine res_ok (x_convert ho (hx.trans (by simp only [SV.den])) hr) ⟨fun _ => (0, v'), by simp only [SV.den, eset_at]; exact hv'.symm, ?_⟩
  simp only [hden, tden, List.map_cons, List.map_nil, SC.den, List.cons_append, List.nil_append, eset_at, hv', SL.den]
  have e : (bytesOf str).map (Value.int .u8) = byteCells str := by unfold bytesOf byteCells; rw [List.map_map]; rfl
  rw [e] at hm
  exact hm
def intOfV : Value → Int
  | .int _ x => x
  | _ => 0
def isU8 : Value → Bool
  | .int .u8 _ => true
  | _ => false
def valsL (ys : SL) : Option (List Value) := match ys with
  | .deep l => plains l
  | .shal l => some l
theorem valsL_den {ys : SL} {vs : List Value} (h : valsL ys = some vs) (ε : Env) : ys.den ε = vs := by
  unfold valsL at h
  split at h
  · exact plains_den ε _ vs h
  · cases h; rfl
def optU (opt : Opt) (ys : List Value) : Option (List (CV × CV)) := match opt with
  | .u8 zs _ => some [(.sv (.val (.tuple ys.toArray)), .sv (.val (.tuple zs.toArray)))]
  | _ => bif ys.all isU8 then some [] else Option.none
theorem optU_ok {opt : Opt} {ys : List Value} {c : List (CV × CV)} (h : optU opt ys = some c) (hk : ChkOK c) : ys = (ys.map intOfV).map (Value.int .u8) := by
  unfold optU at h
  split at h
  · rename_i zs h1
    cases h
    have := hk _ List.mem_cons_self
    have e : ys = zs := by
      have e1 : ys.toArray = zs.toArray := by simpa using this
      have := congrArg Array.toList e1
      simpa using this
    rw [e]
    exact h1
  · cases hb : ys.all isU8 with
    | true =>
      rw [List.map_map]
      conv => lhs; rw [← List.map_id ys]
      refine List.map_congr_left fun v hv => ?_
      have := List.all_eq_true.1 hb v hv
      unfold isU8 at this
      split at this <;> first | (cases this; done) | rfl
    | false => rw [hb] at h; cases h
def sToStr (P : Program) (H : Heap) (opt : Opt) (src dst : Nat) (x : SV) : Option Out := match P.underlying src, P.underlying dst with
  | some (.slice e), some .string => match P.underlying e with
    | some (.int .u8) => match x with
      | .raw s k => match hget H (s, k) with
        | .row _ sz n ys _ => bif Nat.beq sz 1 then (match valsL ys with
            | some vs => match optU opt vs with
              | some c => some ⟨.val (.string (ofBytes (vs.map intOfV))), [], [(s, k)], c⟩
              | none => none
            | none => none) else none
        | _ => none
      | .val (.slice none 0 0) => some ⟨.val (.string (ofBytes [])), [], [], []⟩
      | _ => none
    | _ => none
  | _, _ => none
theorem sToStr_ok {opt : Opt} {src dst : Nat} {x : Operand} {v : SV} (ho : o.op = .convert src dst x) (hx : ρ x = v.den ε) (h : sToStr P H opt src dst v = some out) (hk : ChkOK out.chk) : Sound P s o ρ ε H out := by
  unfold sToStr at h
  split at h <;> try (cases h; done)
  rename_i e hs hd
  split at h <;> try (cases h; done)
  rename_i he
  split at h <;> try (cases h; done)
  · split at h <;> try (cases h; done)
    rename_i s' k _ E sz n ys ws hg
    cases hb : Nat.beq sz 1 with
    | false => rw [hb] at h; cases h
    | true =>
      rw [hb] at h
      simp only [cond_true] at h
      split at h <;> try (cases h; done)
      rename_i vs hvs
      split at h <;> try (cases h; done)
      rename_i c hc
      cases h
      have hb := Nat.eq_of_beq_eq_true hb
      subst hb
      refine sound_pure fun R w hM => ?_
      simp only [tden, List.map_cons, List.map_nil, hg, List.cons_append, List.nil_append] at hM
      have hr := (row_den hM).1
      rw [valsL_den hvs ε, optU_ok hc hk] at hr
      obtain ⟨a, cp, hv, hrow, -⟩ := hr.row
      have hl : (vs.map intOfV).length = n := by have := hr.1; simpa using this
      have := run_ofBytes (P := P) (w := w) (c := cp) hs he hd hl hrow
      rw [x_convert ho (hx.trans (by simp only [SV.den]; exact hv)) this]
      simp [SV.den]
  · cases h
    refine sound_pure fun R w hM => ?_
    have := run_ofBytes (P := P) (w := w) (a := none) (n := 0) (c := 0) (xs := []) hs he hd rfl Row.nil
    rw [x_convert ho (hx.trans (by simp only [SV.den])) this]
    simp [SV.den]
def sMake (P : Program) (s : Nat) (opt : Opt) (t : Nat) (x y : SV) : Option Out := match P.underlying t with
  | some (.slice e) => match P.info? e with
    | some i => match i.zero with
      | some z => match x, y with
        | .val (.int _ (.ofNat n)), .val (.int _ (.ofNat m)) => bif Nat.beq z.cells.size i.size && (Nat.blt 0 i.size && Nat.ble i.bytes 131072) then (match optN opt n with
            | some c => some ⟨.raw s 0, [((s, 0), .row e i.size n (.deep (zerosOf z (n * i.size))) [])], [], (.nat n, .nat m) :: c⟩
            | none => none) else none
        | _, _ => none
      | none => none
    | none => none
  | _ => none
theorem x_makeSlice {t : Nat} {x y : Operand} {u v r : Value} {w' : World} (ho : o.op = .makeSlice t x y) (hx : ρ x = u) (hy : ρ y = v) (hr : (Instr.makeSlice t u v).run P w = .ok r w') : (execOp ρ o).run P w = .ok (.value r) w' := by
  unfold execOp; rw [ho]; simp [hx, hy, hr]
theorem sMake_ok {opt : Opt} {t : Nat} {x y : Operand} {u v : SV} (ho : o.op = .makeSlice t x y) (hx : ρ x = u.den ε) (hy : ρ y = v.den ε) (h : sMake P s opt t u v = some out) (hk : ChkOK out.chk) : Sound P s o ρ ε H out := by
  unfold sMake at h
  split at h <;> try (cases h; done)
  rename_i e hu
  split at h <;> try (cases h; done)
  rename_i i hi
  split at h <;> try (cases h; done)
  rename_i z hz
  split at h <;> try (cases h; done)
  rename_i k1 n k2 m
  cases hb : Nat.beq z.cells.size i.size && (Nat.blt 0 i.size && Nat.ble i.bytes 131072) with
  | false => rw [hb] at h; cases h
  | true =>
    rw [hb] at h
    simp only [cond_true] at h
    split at h <;> try (cases h; done)
    rename_i c hc
    cases h
    rw [Bool.and_eq_true, Bool.and_eq_true] at hb
    have b1 := Nat.eq_of_beq_eq_true hb.1
    have b2 : 0 < i.size := by have := hb.2.1; rwa [Nat.blt_eq] at this
    have b3 := Nat.le_of_ble_eq_true hb.2.2
    have hnm : n = m := by have := hk _ List.mem_cons_self; simpa using this
    subst hnm
    have hN := optN_ok hc fun c hc => hk c (List.mem_cons_of_mem _ hc)
    intro R w hM
    have hbytes : (i.bytes : Int) * (n : Int) ≤ 281474976710656 := by
      have h1 : i.bytes * n ≤ 131072 * 1073741824 := Nat.mul_le_mul b3 hN
      have h2 : (i.bytes : Int) * (n : Int) = ((i.bytes * n : Nat) : Int) := by simp
      omega
    have hr := run_make (P := P) w t e i z hu hi hz k1 k2 (n : Int) (n : Int) (by omega) (by omega) hbytes (by omega)
    simp only [Int.toNat_natCast] at hr
    have hcells : (SV.dens ε (zerosOf z (n * i.size))).toArray = madeCells z.cells (n * i.size) := zerosOf_den ε z _ (.inl (by omega))
    have hm := mem_newRow (e := e) (size := i.size) (n := n) (cells := SV.dens ε (zerosOf z (n * i.size))) hM (by rw [dens_length]; unfold zerosOf; simp) hN
    rw [hcells] at hm
    refine res_ok (x_makeSlice ho (hx.trans (by simp only [SV.den]; rfl)) (hy.trans (by simp only [SV.den]; rfl)) hr) ⟨fun _ => (w.heap.size, .slice (some ⟨w.heap.size, 0, none⟩) n n), by simp [SV.den, eset_at, asSl], ?_⟩
    simp only [hden, tden, List.map_cons, List.map_nil, SC.den, SL.den, List.cons_append, List.nil_append, eset_at]
    rw [dens_eset (oks_zeros _ _)]
    exact hm
def sIdx (P : Program) (H : Heap) (opt : Opt) (t : Nat) (x y : SV) : Option Out := match x with
  | .raw s k => match hget H (s, k) with
    | .row _ sz n _ _ => bif sliceT P t sz then (match opt with
        | .at_ p i n0 e0 _ => match y with
          | .val (.int q e) => some ⟨.elt s k p (i * sz) 0, [], [(s, k)], [(.sv (.val (.int q e)), .sv (.val (.int q e0))), (.nat n, .nat n0)]⟩
          | _ => none
        | _ => match y with
          | .val (.int _ (.ofNat i)) => bif Nat.blt i n then some ⟨.elt s k 0 0 (i * sz), [], [(s, k)], []⟩ else none
          | _ => none) else none
    | _ => none
  | .ptr s k off => match P.underlying t with
    | some (.array m e) => match P.info? e with
      | some ie => match y with
        | .val (.int _ (.ofNat i)) => bif Nat.blt i m then some ⟨.ptr s k (off + i * ie.size), [], [], []⟩ else none
        | _ => none
      | none => none
    | _ => none
  | .win s k sz' lo m => match hget H (s, k) with
    | .row _ sz n _ _ => bif sliceT P t sz && (Nat.beq sz sz' && (Nat.ble (lo + m) n && Nat.blt 0 sz)) then (match y with
      | .val (.int _ (.ofNat i)) => bif Nat.blt i m then some ⟨.elt s k 0 0 ((lo + i) * sz), [], [(s, k)], []⟩ else none
      | _ => none) else none
    | _ => none
  | _ => none
theorem asSl_some {v : Value} {a : Addr} {n c : Nat} (h : asSl v = .slice (some a) n c) : v = .slice (some a) n c := by
  cases v <;> first | (simp only [asSl] at h; done) | (simp only [asSl] at h; cases h; done) | exact h
theorem x_idxA {t m e n : Nat} {x y : Operand} {b off i : Nat} {k : IntKind} {ie : TypeInfo} (ho : o.op = .indexAddr t x y) (hx : ρ x = .pointer (some ⟨b, off, none⟩)) (hy : ρ y = .int k (i : Int)) (hT : P.underlying t = some (.array m e)) (hi : P.info? e = some ie) (hlt : i < m) : (execOp ρ o).run P w = .ok (.value (.pointer (some ⟨b, off + i * ie.size, none⟩))) w := by
  unfold execOp; rw [ho]
  simp [hx, hy, Instr.indexAt, Instr.sureAddr, asIntOf, go_sem, run_und hT, sizeOf, typeInfo, hi, hlt, addr_add, Result.andThen]
theorem row_elem {E size n : Nat} {v : Value} {xs : List Value} (h : RowF E size w (asSl v) n xs) (i : Nat) (hi : i < n) (hs : 0 < size) : ∃ c, asSl v = .slice (some ⟨(adOf v).block, (adOf v).off, none⟩) n c := by
  obtain ⟨a, c, hv, hr, -⟩ := h.row
  have hl : 0 < xs.length := by rw [h.1]; exact Nat.mul_pos (by omega) hs
  obtain ⟨b, off, rfl, -⟩ := hr 0 hl
  refine ⟨c, ?_⟩
  have : adOf v = ⟨b, off, none⟩ := by rw [← adOf_asSl, hv]; rfl
  rw [this, hv]
theorem x_idx0 {t : Nat} {x y : Operand} {v : Value} {a : Addr} {n c i : Nat} {k : IntKind} {e : TypeId} {ie : TypeInfo} (ho : o.op = .indexAddr t x y) (hx : ρ x = .slice (some a) n c) (hy : ρ y = .int k (i : Int)) (hT : P.underlying t = some (.slice e)) (hi : P.info? e = some ie) (hlt : i < n) : (execOp ρ o).run P w = .ok (.value (.pointer (some (a.add (i * ie.size))))) w := by
  unfold execOp; rw [ho]
  simp [hx, hy, Instr.indexAt, asIntOf, go_sem, run_und hT, sizeOf, typeInfo, hi, hlt, Result.andThen]
theorem sIdx_ok {opt : Opt} {t : Nat} {x y : Operand} {u v : SV} (ho : o.op = .indexAddr t x y) (hx : ρ x = u.den ε) (hy : ρ y = v.den ε) (h : sIdx P H opt t u v = some out) (hk : ChkOK out.chk) : Sound P s o ρ ε H out := by
  unfold sIdx at h
  split at h <;> try (cases h; done)
  · rename_i s' k
    split at h <;> try (cases h; done)
    rename_i E sz n xs ws hg
    cases hb : sliceT P t sz with
    | false => rw [hb] at h; cases h
    | true =>
      rw [hb] at h
      simp only [cond_true] at h
      obtain ⟨e, ie, hT, hie, hsz⟩ : ∃ e ie, P.underlying t = some (.slice e) ∧ P.info? e = some ie ∧ ie.size = sz := by
        unfold sliceT at hb
        split at hb <;> try (cases hb; done)
        rename_i e hu
        split at hb <;> try (cases hb; done)
        rename_i i0 hi0
        exact ⟨e, i0, hu, hi0, by simpa using hb⟩
      have key : ∀ (i : Nat) (q : IntKind) (R : List Chunk) (w : World), Mem (tden ε H [(s', k)] ++ R) w → i < n → ρ y = .int q (i : Int) → (execOp ρ o).run P w = .ok (.value (.pointer (some ⟨(adOf (ε s' k).2).block, (adOf (ε s' k).2).off + i * sz, none⟩))) w := by
        intro i q R w hM hi hy
        simp only [tden, List.map_cons, List.map_nil, hg, List.cons_append, List.nil_append] at hM
        have hr := (row_den hM).1
        by_cases h0 : 0 < sz
        · obtain ⟨c, hv⟩ := row_elem hr i hi h0
          rw [x_idx0 (v := undef) ho (hx.trans (by simp only [SV.den]; exact hv)) hy hT hie hi, hsz, addr_add]
        · obtain ⟨hl, ⟨h1, h2⟩ | ⟨g, cap, cur, hv, -⟩⟩ := hr
          · omega
          · have hz : sz = 0 := by omega
            have ha : adOf (ε s' k).2 = ⟨g, 0, none⟩ := by rw [← adOf_asSl, hv]; rfl
            rw [x_idx0 (v := undef) ho (hx.trans (by simp only [SV.den]; exact hv)) hy hT hie hi, hsz, hz, ha]
            simp [Addr.add]
      split at h
      · rename_i p i n0 e0 hp
        split at h <;> try (cases h; done)
        rename_i q e1
        cases h
        have k1 := hk _ List.mem_cons_self
        have k2 := hk _ (List.mem_cons_of_mem _ List.mem_cons_self)
        have k1 : e1 = e0 := by simpa using k1
        have k2 : n = n0 := by simpa using k2
        subst k1
        subst k2
        refine sound_pure fun R w hM => ?_
        rw [key i q R w hM hp.2 (hy.trans (by simp only [SV.den]; rw [hp.1]))]
        simp [SV.den]
      · split at h <;> try (cases h; done)
        rename_i q i
        cases hlt : Nat.blt i n with
        | false => rw [hlt] at h; cases h
        | true =>
          rw [hlt] at h; cases h
          have hlt : i < n := by rwa [Nat.blt_eq] at hlt
          refine sound_pure fun R w hM => ?_
          rw [key i q R w hM hlt (hy.trans (by simp only [SV.den]; rfl))]
          simp [SV.den]
  · rename_i s' k off
    split at h <;> try (cases h; done)
    rename_i m e hT
    split at h <;> try (cases h; done)
    rename_i ie hie
    split at h <;> try (cases h; done)
    rename_i q i
    cases hlt : Nat.blt i m with
    | false => rw [hlt] at h; cases h
    | true =>
      rw [hlt] at h; cases h
      have hlt : i < m := by rwa [Nat.blt_eq] at hlt
      refine sound_pure fun R w hM => ?_
      rw [x_idxA (n := 0) ho (hx.trans (by simp only [SV.den]; rfl)) (hy.trans (by simp only [SV.den]; rfl)) hT hie hlt]
      simp [SV.den]
  · rename_i s' k sz' lo m
    split at h <;> try (cases h; done)
    rename_i E sz n xs ws hg
    cases hb : sliceT P t sz && (Nat.beq sz sz' && (Nat.ble (lo + m) n && Nat.blt 0 sz)) with
    | false => rw [hb] at h; cases h
    | true =>
      rw [hb] at h
      simp only [cond_true] at h
      simp only [Bool.and_eq_true, Nat.blt_eq] at hb
      obtain ⟨hb, b1, b2, b3⟩ := hb
      have b1 := Nat.eq_of_beq_eq_true b1
      subst b1
      have b2 := Nat.le_of_ble_eq_true b2
      split at h <;> try (cases h; done)
      rename_i q i
      cases hlt : Nat.blt i m with
      | false => rw [hlt] at h; cases h
      | true =>
        rw [hlt] at h; cases h
        have hlt : i < m := by rwa [Nat.blt_eq] at hlt
        obtain ⟨e, ie, hT, hie, hsz⟩ : ∃ e ie, P.underlying t = some (.slice e) ∧ P.info? e = some ie ∧ ie.size = sz := by
          unfold sliceT at hb
          split at hb <;> try (cases hb; done)
          rename_i e hu
          split at hb <;> try (cases hb; done)
          rename_i i0 hi0
          exact ⟨e, i0, hu, hi0, by simpa using hb⟩
        refine sound_pure fun R w hM => ?_
        simp only [tden, List.map_cons, List.map_nil, hg, List.cons_append, List.nil_append] at hM
        have hr := (row_den hM).1
        obtain ⟨c, hv⟩ := row_elem hr lo (by omega) b3
        obtain ⟨a0, c0, hv0, -, hnc, -⟩ := hr.row
        have hcc : n ≤ c := by rw [hv] at hv0; cases hv0; exact hnc
        have hv1 := asSl_some hv
        have hw : winV (ε s' k).2 sz lo m = .slice (some (⟨(adOf (ε s' k).2).block, (adOf (ε s' k).2).off + lo * sz, none⟩ : Addr)) m (c - lo) := by
          generalize adOf (ε s' k).2 = ad at *
          rw [hv1]
          unfold winV
          simp only
          rw [if_neg (by omega)]
          simp [addr_add]
        rw [x_idx0 (v := undef) ho (hx.trans (by simp only [SV.den]; exact hw)) (hy.trans (by simp only [SV.den]; rfl)) hT hie hlt, hsz, addr_add]
        simp [SV.den, Nat.add_mul, Nat.add_assoc]
def closedN : SV → Option Nat
  | .val (.int _ (.ofNat i)) => some i
  | _ => none
theorem closedN_ok {v : SV} {i : Nat} (h : closedN v = some i) (ε : Env) : ∃ k, v.den ε = .int k (i : Int) := by
  unfold closedN at h
  split at h
  · cases h; exact ⟨_, by simp only [SV.den]; rfl⟩
  · cases h
def evB (ev : Ev1) (d : Nat) : Option Operand → Option Nat
  | none => some d
  | some x => match ev x with
    | some v => closedN v
    | none => none
def sSlice (P : Program) (H : Heap) (ev : Ev1) (t : Nat) (x : SV) (lo hi : Option Operand) : Option Out := match x with
  | .raw s k => match hget H (s, k) with
    | .row _ sz n _ _ => match evB ev 0 lo with
      | some l => match evB ev n hi with
        | some h => bif sliceT P t sz && (Nat.ble l h && Nat.ble h n) then some ⟨.win s k sz l (h - l), [], [(s, k)], []⟩ else none
        | none => none
      | none => none
    | _ => none
  | _ => none
theorem x_sliceN {t n l h len cap : Nat} {x : Operand} {a : Option Addr} {lo hi : Option Operand} (ho : o.op = .slice t x lo hi none) (hx : ρ x = .slice a len cap) (hT : sliceT P t n = true)
    (hlo : (lo = none ∧ l = 0) ∨ ∃ y k, lo = some y ∧ ρ y = .int k (l : Int)) (hhi : (hi = none ∧ h = len) ∨ ∃ y k, hi = some y ∧ ρ y = .int k (h : Int)) (h1 : l ≤ h) (h2 : h ≤ cap) :
    (execOp ρ o).run P w = .ok (.value (.slice (if cap = l then a else a.map (·.add (l * n))) (h - l) (cap - l))) w := by
  unfold sliceT at hT
  split at hT <;> try (cases hT; done)
  rename_i e hu
  split at hT <;> try (cases hT; done)
  rename_i i0 hi0
  have hT : i0.size = n := by simpa using hT
  have q1 : (0 : Int) ≤ l ∧ (l : Int) ≤ h := by omega
  have q2 : (0 : Int) ≤ h ∧ (h : Int) ≤ cap := by omega
  rcases hlo with ⟨rfl, rfl⟩ | ⟨y, k, rfl, hy⟩ <;> rcases hhi with ⟨rfl, rfl⟩ | ⟨y', k', rfl, hy'⟩ <;> (unfold execOp; rw [ho])
  · simp [hx, Instr.sliceAt, Instr.slice, Instr.sliceBounds, Instr.sliceBound, asIntOf, go_sem, run_und hu, sizeOf, typeInfo, hi0, hT, Result.andThen]
  · simp [hx, hy', Instr.sliceAt, Instr.slice, Instr.sliceBounds, Instr.sliceBound, asIntOf, go_sem, run_und hu, sizeOf, typeInfo, hi0, hT, h2, q2, Result.andThen]
  · simp [hx, hy, Instr.sliceAt, Instr.slice, Instr.sliceBounds, Instr.sliceBound, asIntOf, go_sem, run_und hu, sizeOf, typeInfo, hi0, hT, h1, q1, Result.andThen]
  · simp [hx, hy, hy', Instr.sliceAt, Instr.slice, Instr.sliceBounds, Instr.sliceBound, asIntOf, go_sem, run_und hu, sizeOf, typeInfo, hi0, hT, h1, h2, q1, q2, Result.andThen]
theorem sSlice_ok {t : Nat} {x : Operand} {lo hi : Option Operand} {v : SV} {ev : Ev1} (ho : o.op = .slice t x lo hi none) (hx : ρ x = v.den ε) (hev : EvOK ev o ρ ε s) (h : sSlice P H ev t v lo hi = some out) : Sound P s o ρ ε H out := by
  unfold sSlice at h
  split at h <;> try (cases h; done)
  rename_i s' k
  split at h <;> try (cases h; done)
  rename_i E sz n xs ws hg
  split at h <;> try (cases h; done)
  rename_i l hl
  split at h <;> try (cases h; done)
  rename_i h' hh
  cases hb : sliceT P t sz && (Nat.ble l h' && Nat.ble h' n) with
  | false => rw [hb] at h; cases h
  | true =>
    rw [hb] at h; cases h
    simp only [Bool.and_eq_true] at hb
    obtain ⟨b0, b1, b2⟩ := hb
    have b1 := Nat.le_of_ble_eq_true b1
    have b2 := Nat.le_of_ble_eq_true b2
    have bnd : ∀ {d b : Nat} {y : Option Operand}, evB ev d y = some b → (∀ z, y = some z → z ∈ o.op.operands) → (y = none ∧ b = d) ∨ ∃ z k, y = some z ∧ ρ z = .int k (b : Int) := by
      intro d b y hy hin
      cases y with
      | none => cases hy; exact .inl ⟨rfl, rfl⟩
      | some z =>
        right
        unfold evB at hy
        simp only at hy
        split at hy <;> try (cases hy; done)
        rename_i u hu
        obtain ⟨kk, hk⟩ := closedN_ok hy ε
        exact ⟨z, kk, rfl, ((hev z (hin z rfl) u hu).1).trans hk⟩
    have i1 := bnd hl (fun z hz => by subst hz; rw [ho]; simp [Op.operands])
    have i2 := bnd hh (fun z hz => by subst hz; rw [ho]; simp [Op.operands])
    refine sound_pure fun R w hM => ?_
    simp only [tden, List.map_cons, List.map_nil, hg, List.cons_append, List.nil_append] at hM
    obtain ⟨a, c, hv, -, hnc, -, hac⟩ := (row_den hM).1.row
    have hx2 : ρ x = .slice a n c := hx.trans (by simp only [SV.den]; exact hv)
    rw [x_sliceN ho hx2 b0 i1 i2 b1 (by omega)]
    have : winV (ε s' k).2 sz l (h' - l) = .slice (if c = l then a else a.map (·.add (l * sz))) (h' - l) (c - l) := by
      cases a with
      | some ad => rw [asSl_some hv]; rfl
      | none =>
        have hc0 := hac rfl
        subst hc0
        have hn0 : n = 0 := by omega
        have hl0 : l = 0 := by omega
        subst hl0
        cases hq : (ε s' k).2 <;> first | (rw [hq] at hv; simp only [asSl, Value.slice.injEq] at hv; obtain ⟨e1, e2, e3⟩ := hv; subst e1; subst e3; rfl) | simp [winV]
    simp only [SV.den, this]
end
end Go.Sx
