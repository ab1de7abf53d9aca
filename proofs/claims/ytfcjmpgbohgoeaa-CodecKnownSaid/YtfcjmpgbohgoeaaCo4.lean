/- CODEC: what each part of a record is read as, or laid as; segments of a block. -/
import Derived.Test.YtfcjmpgbohgoeaaCo3
import Derived.Test.YtfcjmpgbohgoeaaZeros
namespace Go.Proofs.Ytfcjmpgbohgoeaa
set_option linter.unusedVariables false
set_option linter.unusedSimpArgs false
open Go.RowKit Go.Lib Go.Tk Go.Shelf Go.Vc

def fld (k : IntKind) (m : Md) (σ : WS) (x : Int) (n : Nat) : Int × WS := (k.wrap (num m σ (IntKind.u64.wrap x) n).1, (num m σ (IntKind.u64.wrap x) n).2)
structure LegV where
 c : Int
 f : Int
 x : Int
structure TaxV where
 code : ByteArray
 amt : Int
structure TickV where
 c : Int
 r : Int
def legE (l : LegV) : List Value := [.int .u8 l.c, .int .u16 l.f, .int .u32 l.x]
def taxE (t : TaxV) : List Value := [.string t.code, .int .i64 t.amt]
def tickE (t : TickV) : List Value := [.int .u8 t.c, .int .u64 t.r]
def legF (m : Md) (σ : WS) (l : LegV) : LegV × WS :=
 (⟨(fld .u8 m σ l.c 1).1, (fld .u16 m (fld .u8 m σ l.c 1).2 l.f 2).1, (fld .u32 m (fld .u16 m (fld .u8 m σ l.c 1).2 l.f 2).2 l.x 4).1⟩, (fld .u32 m (fld .u16 m (fld .u8 m σ l.c 1).2 l.f 2).2 l.x 4).2)
def tickF (m : Md) (σ : WS) (t : TickV) : TickV × WS :=
 (⟨(fld .u8 m σ t.c 1).1, (num m (fld .u8 m σ t.c 1).2 t.r 8).1⟩, (num m (fld .u8 m σ t.c 1).2 t.r 8).2)
def eachL {α : Type} (f : WS → α → α × WS) : WS → List α → List α × WS
 | σ, [] => ([], σ)
 | σ, x :: l => ((f σ x).1 :: (eachL f (f σ x).2 l).1, (eachL f (f σ x).2 l).2)
def listN (m : Md) (σ : WS) (L most : Nat) : Nat × WS :=
 if (num m σ L 1).1 > most then (0, ⟨true, (num m σ L 1).2.bs⟩) else ((num m σ L 1).1.toNat, (num m σ L 1).2)
def listF {α : Type} (f : WS → α → α × WS) (z : α) (m : Md) (σ : WS) (xs : List α) (most : Nat) : List α × WS :=
 eachL f (listN m σ xs.length most).2 (xs ++ List.replicate ((listN m σ xs.length most).1 - xs.length) z)
def byteE (x : Int) : List Value := [.int .u8 x]
def byteF (m : Md) (σ : WS) (x : Int) : Int × WS := fld .u8 m σ x 1
def textF (m : Md) (σ : WS) (s : ByteArray) : ByteArray × WS :=
 (ofBytes (listF (byteF m) 0 m σ (bytesOf s) 32).1, (listF (byteF m) 0 m σ (bytesOf s) 32).2)
def taxF (m : Md) (σ : WS) (t : TaxV) : TaxV × WS :=
 (⟨(textF m σ t.code).1, (fld .i64 m (textF m σ t.code).2 t.amt 8).1⟩, (fld .i64 m (textF m σ t.code).2 t.amt 8).2)

/-! ### sizes -/
theorem num_len (m : Md) (σ : WS) (v : Int) (n : Nat) : (num m σ v n).2.bs.length ≤ σ.bs.length + n := by
 cases m with
 | lay => simp [num, be_len]
 | take D =>
  by_cases h : σ.bs.length < n
  · simp [num, h]
  · simp [num, h]; omega
theorem fld_len (k : IntKind) (m : Md) (σ : WS) (v : Int) (n : Nat) : (fld k m σ v n).2.bs.length ≤ σ.bs.length + n := num_len m σ _ n
theorem legF_len (m : Md) (σ : WS) (l : LegV) : (legF m σ l).2.bs.length ≤ σ.bs.length + 7 := by
 have h1 := fld_len .u8 m σ l.c 1
 have h2 := fld_len .u16 m (fld .u8 m σ l.c 1).2 l.f 2
 have h3 := fld_len .u32 m (fld .u16 m (fld .u8 m σ l.c 1).2 l.f 2).2 l.x 4
 show (fld .u32 m (fld .u16 m (fld .u8 m σ l.c 1).2 l.f 2).2 l.x 4).2.bs.length ≤ _
 omega
theorem listN_len (m : Md) (σ : WS) (L most : Nat) : (listN m σ L most).2.bs.length ≤ σ.bs.length + 1 := by
 have h := num_len m σ L 1
 unfold listN
 split <;> exact h
theorem listN_most (m : Md) (σ : WS) (L most : Nat) : (listN m σ L most).1 ≤ most := by
 unfold listN
 split
 · exact Nat.zero_le _
 · show (num m σ L 1).1.toNat ≤ _; omega
theorem eachL_len {α : Type} {f : WS → α → α × WS} {ok : α → Prop} {K : Nat} (h : ∀ σ x, ok x → (f σ x).2.bs.length ≤ σ.bs.length + K) : ∀ (l : List α) (σ : WS), (∀ x ∈ l, ok x) → (eachL f σ l).2.bs.length ≤ σ.bs.length + l.length * K
 | [], σ, _ => Nat.le_add_right _ _
 | x :: l, σ, hl => by
  have h1 := eachL_len h l (f σ x).2 (fun y hy => hl y (List.mem_cons_of_mem _ hy))
  have h2 := h σ x (hl x List.mem_cons_self)
  show (eachL f (f σ x).2 l).2.bs.length ≤ _
  rw [List.length_cons, Nat.add_mul, Nat.one_mul]
  omega
theorem eachL_size {α : Type} {f : WS → α → α × WS} : ∀ (l : List α) (σ : WS), (eachL f σ l).1.length = l.length
 | [], _ => rfl
 | x :: l, σ => by show (_ :: _).length = _; rw [List.length_cons, List.length_cons, eachL_size l]
theorem listF_len {α : Type} {f : WS → α → α × WS} {z : α} {K : Nat} (h : ∀ σ x, (f σ x).2.bs.length ≤ σ.bs.length + K) (m : Md) (σ : WS) (xs : List α) (most : Nat) (hx : xs.length ≤ (listN m σ xs.length most).1) : (listF f z m σ xs most).2.bs.length ≤ σ.bs.length + 1 + most * K := by
 unfold listF
 have h1 := listN_len m σ xs.length most
 have h2 := listN_most m σ xs.length most
 refine Nat.le_trans (eachL_len (ok := fun _ => True) (fun σ x _ => h σ x) _ _ (fun _ _ => trivial)) ?_
 rw [List.length_append, List.length_replicate, show xs.length + ((listN m σ xs.length most).1 - xs.length) = (listN m σ xs.length most).1 from by omega]
 have := Nat.mul_le_mul_right K h2
 omega
theorem byteF_len (m : Md) (σ : WS) (x : Int) : (byteF m σ x).2.bs.length ≤ σ.bs.length + 1 := fld_len _ _ _ _ _
/-- a text that may be put, or is to be read -/
def TextOk (m : Md) (σ : WS) (s : ByteArray) : Prop := s.size ≤ (listN m σ s.size 32).1
theorem textF_len (m : Md) (σ : WS) (s : ByteArray) (h : TextOk m σ s) : (textF m σ s).2.bs.length ≤ σ.bs.length + 33 := listF_len (byteF_len m) m σ (bytesOf s) 32 (by rw [bytesOf_len]; exact h)
theorem taxF_len (m : Md) (σ : WS) (t : TaxV) (h : TextOk m σ t.code) : (taxF m σ t).2.bs.length ≤ σ.bs.length + 41 := by
 have h1 := textF_len m σ t.code h
 have h2 := fld_len .i64 m (textF m σ t.code).2 t.amt 8
 show (fld .i64 m (textF m σ t.code).2 t.amt 8).2.bs.length ≤ _
 omega

/-! ### a block's segments -/
def Seg (vs : Array Value) (off : Nat) (cs : List Value) : Prop := off + cs.length ≤ vs.size ∧ (vs.toList.drop off).take cs.length = cs
theorem Seg.cell {vs : Array Value} {off : Nat} {cs : List Value} (h : Seg vs off cs) {j : Nat} {v : Value} (hj : cs[j]? = some v) : vs[off + j]? = some v := by
 have hl := (List.getElem?_eq_some_iff.1 hj).1
 rw [← h.2, List.getElem?_take_of_lt hl, List.getElem?_drop] at hj
 simpa using hj
theorem Seg.one {vs : Array Value} {off : Nat} {v : Value} (h : Seg vs off [v]) : vs[off]? = some v := h.cell (j := 0) rfl
theorem over_size {vs : Array Value} {off : Nat} {l : List Value} (h : off + l.length ≤ vs.size) : (over vs off l).size = vs.size := by
 unfold over
 simp [List.length_take]
 omega
theorem over_nil {vs : Array Value} {off : Nat} : over vs off [] = vs := by unfold over; simp
theorem over_over {vs : Array Value} {off : Nat} {l l' : List Value} (h : off + l.length + l'.length ≤ vs.size) : over (over vs off l) (off + l.length) l' = over vs off (l ++ l') := by
 unfold over
 congr 1
 have e0 : (vs.toList.take off).length = off := by rw [List.length_take, Array.length_toList]; omega
 have e1 : (vs.toList.take off ++ l).length = off + l.length := by rw [List.length_append, e0]
 rw [List.take_left' e1]
 have e2 : (vs.toList.take off ++ l ++ vs.toList.drop (off + l.length)).drop (off + l.length + l'.length) = vs.toList.drop (off + (l ++ l').length) := by
  rw [List.drop_append, e1, List.drop_eq_nil_of_le (by omega), List.nil_append, List.drop_drop, List.length_append]
  congr 1
  omega
 rw [e2]
 simp
theorem Seg.behind {vs : Array Value} {off : Nat} {E l : List Value} (h : Seg vs off E) (k : Nat) (hk : l.length + k ≤ E.length) : Seg (over vs off l) (off + l.length) ((E.drop l.length).take k) := by
 have h1 := h.1
 have hlen : ((E.drop l.length).take k).length = k := by rw [List.length_take, List.length_drop]; omega
 refine ⟨by rw [hlen, over_size (by omega)]; omega, ?_⟩
 rw [hlen]
 unfold over
 have e0 : (vs.toList.take off).length = off := by rw [List.length_take, Array.length_toList]; omega
 have e1 : (vs.toList.take off ++ l).length = off + l.length := by rw [List.length_append, e0]
 rw [List.drop_left' e1, ← h.2, List.drop_take, List.take_take, List.drop_drop]
 congr 1
 omega
theorem seg_uint8 (m : Md) (pw : Nat) (σ : WS) (q : Option TypeId) (b off : Nat) (vs : Array Value) (x : Int) (n : Nat) (R : List Chunk) (w : World) (hM : Mem (walkC m pw σ :: boxE q b vs :: R) w) (hx : Seg vs off [.int .u8 x]) (hn : 1 ≤ n ∧ n ≤ 8) (hb : σ.bs.length ≤ 1000000) :
  Calls Try.prog 40 #[.pointer (some ⟨pw, 0, none⟩), .pointer (some ⟨b, off, none⟩), .int .i64 n] w fun e w' => e = .returned (.tuple #[]) ∧ Mem (walkC m pw (fld .u8 m σ x n).2 :: boxE q b (over vs off [.int .u8 (fld .u8 m σ x n).1]) :: R) w' :=
 field_uint8 m pw σ q b off vs x n R w hM hx.one hn hb
theorem seg_uint16 (m : Md) (pw : Nat) (σ : WS) (q : Option TypeId) (b off : Nat) (vs : Array Value) (x : Int) (n : Nat) (R : List Chunk) (w : World) (hM : Mem (walkC m pw σ :: boxE q b vs :: R) w) (hx : Seg vs off [.int .u16 x]) (hn : 1 ≤ n ∧ n ≤ 8) (hb : σ.bs.length ≤ 1000000) :
  Calls Try.prog 66 #[.pointer (some ⟨pw, 0, none⟩), .pointer (some ⟨b, off, none⟩), .int .i64 n] w fun e w' => e = .returned (.tuple #[]) ∧ Mem (walkC m pw (fld .u16 m σ x n).2 :: boxE q b (over vs off [.int .u16 (fld .u16 m σ x n).1]) :: R) w' :=
 field_uint16 m pw σ q b off vs x n R w hM hx.one hn hb
theorem seg_uint32 (m : Md) (pw : Nat) (σ : WS) (q : Option TypeId) (b off : Nat) (vs : Array Value) (x : Int) (n : Nat) (R : List Chunk) (w : World) (hM : Mem (walkC m pw σ :: boxE q b vs :: R) w) (hx : Seg vs off [.int .u32 x]) (hn : 1 ≤ n ∧ n ≤ 8) (hb : σ.bs.length ≤ 1000000) :
  Calls Try.prog 62 #[.pointer (some ⟨pw, 0, none⟩), .pointer (some ⟨b, off, none⟩), .int .i64 n] w fun e w' => e = .returned (.tuple #[]) ∧ Mem (walkC m pw (fld .u32 m σ x n).2 :: boxE q b (over vs off [.int .u32 (fld .u32 m σ x n).1]) :: R) w' :=
 field_uint32 m pw σ q b off vs x n R w hM hx.one hn hb
theorem seg_uint64 (m : Md) (pw : Nat) (σ : WS) (q : Option TypeId) (b off : Nat) (vs : Array Value) (x : Int) (n : Nat) (R : List Chunk) (w : World) (hM : Mem (walkC m pw σ :: boxE q b vs :: R) w) (hx : Seg vs off [.int .u64 x]) (hn : 1 ≤ n ∧ n ≤ 8) (hb : σ.bs.length ≤ 1000000) (hv : 0 ≤ x ∧ x ≤ 18446744073709551615) :
  Calls Try.prog 42 #[.pointer (some ⟨pw, 0, none⟩), .pointer (some ⟨b, off, none⟩), .int .i64 n] w fun e w' => e = .returned (.tuple #[]) ∧ Mem (walkC m pw (num m σ x n).2 :: boxE q b (over vs off [.int .u64 (num m σ x n).1]) :: R) w' :=
 field_uint64 m pw σ q b off vs x n R w hM hx.one hn hb hv
theorem seg_int64 (m : Md) (pw : Nat) (σ : WS) (q : Option TypeId) (b off : Nat) (vs : Array Value) (x : Int) (n : Nat) (R : List Chunk) (w : World) (hM : Mem (walkC m pw σ :: boxE q b vs :: R) w) (hx : Seg vs off [.int .i64 x]) (hn : 1 ≤ n ∧ n ≤ 8) (hb : σ.bs.length ≤ 1000000) :
  Calls Try.prog 55 #[.pointer (some ⟨pw, 0, none⟩), .pointer (some ⟨b, off, none⟩), .int .i64 n] w fun e w' => e = .returned (.tuple #[]) ∧ Mem (walkC m pw (fld .i64 m σ x n).2 :: boxE q b (over vs off [.int .i64 (fld .i64 m σ x n).1]) :: R) w' :=
 field_int64 m pw σ q b off vs x n R w hM hx.one hn hb
theorem seg_Status (m : Md) (pw : Nat) (σ : WS) (q : Option TypeId) (b off : Nat) (vs : Array Value) (x : Int) (n : Nat) (R : List Chunk) (w : World) (hM : Mem (walkC m pw σ :: boxE q b vs :: R) w) (hx : Seg vs off [.int .u8 x]) (hn : 1 ≤ n ∧ n ≤ 8) (hb : σ.bs.length ≤ 1000000) :
  Calls Try.prog 61 #[.pointer (some ⟨pw, 0, none⟩), .pointer (some ⟨b, off, none⟩), .int .i64 n] w fun e w' => e = .returned (.tuple #[]) ∧ Mem (walkC m pw (fld .u8 m σ x n).2 :: boxE q b (over vs off [.int .u8 (fld .u8 m σ x n).1]) :: R) w' :=
 field_Status m pw σ q b off vs x n R w hM hx.one hn hb
theorem seg_Errno (m : Md) (pw : Nat) (σ : WS) (q : Option TypeId) (b off : Nat) (vs : Array Value) (x : Int) (n : Nat) (R : List Chunk) (w : World) (hM : Mem (walkC m pw σ :: boxE q b vs :: R) w) (hx : Seg vs off [.int .i64 x]) (hn : 1 ≤ n ∧ n ≤ 8) (hb : σ.bs.length ≤ 1000000) :
  Calls Try.prog 63 #[.pointer (some ⟨pw, 0, none⟩), .pointer (some ⟨b, off, none⟩), .int .i64 n] w fun e w' => e = .returned (.tuple #[]) ∧ Mem (walkC m pw (fld .i64 m σ x n).2 :: boxE q b (over vs off [.int .i64 (fld .i64 m σ x n).1]) :: R) w' :=
 field_Errno m pw σ q b off vs x n R w hM hx.one hn hb
end Go.Proofs.Ytfcjmpgbohgoeaa
