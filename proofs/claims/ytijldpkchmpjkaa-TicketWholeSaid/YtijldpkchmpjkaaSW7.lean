/- PRORATE: the stable sort of rests, walked: SW7. -/
import Derived.Test.YtijldpkchmpjkaaSW3
import Derived.Test.YtijldpkchmpjkaaSW4
import Derived.Test.YtijldpkchmpjkaaSW5
import Derived.Test.YtijldpkchmpjkaaSW6
namespace Go.Proofs.Ytijldpkchmpjkaa
open Go.RowKit Go.Lib Go.Tk Go.Sort Go.Shelf

theorem symMerge_any (blk off cap : Nat) (d0 : RA) (w0 : World) (R : RowK encR 2 w0 blk off d0) (hsz : d0.size < 4611686018427387904) :
    ∀ (N a m b : Nat) (d : RA) (w : World), b - a ≤ N → d.size = d0.size → SWK encR 2 w0 blk off d w → a < m → m < b → b ≤ d0.size → Srt d a m → Srt d m b → Crs d a m b →
      Calls Try.prog 69 #[.slice (some ⟨blk, off, none⟩) d0.size cap, .int .i64 a, .int .i64 m, .int .i64 b, .func (.func 33) #[] #[]] w fun e w' =>
        e = .returned (.tuple #[]) ∧ ∃ d', SWK encR 2 w0 blk off d' w' ∧ PermIn a b d d' ∧ Srt d' a b
  | 0, a, m, b, d, w, hN, _, _, ham, hmb, _, _, _, _ => by omega
  | N + 1, a, m, b, d, w, hN, hs, S, ham, hmb, hb, hL, hR, hC => by
    rcases Nat.lt_or_ge (a + 1) m with h1 | h1
    · rcases Nat.lt_or_ge (m + 1) b with h2 | h2
      · exact symMany_any blk off cap a m b d0 d w0 w R hs S (fun a' m' b' d' w' hlt x1 x2 x3 x4 x5 x6 x7 x8 => symMerge_any blk off cap d0 w0 R hsz N a' m' b' d' w' (by omega) x1 x2 x3 x4 x5 x6 x7 x8) h1 h2 hb hsz hL hR hC
      · obtain rfl : b = m + 1 := by omega
        exact symLast_any blk off cap a m (m + 1) d0 d w0 w R hs S h1 (by omega) (by omega) hb hsz hL hC
    · obtain rfl : m = a + 1 := by omega
      exact symOne_any blk off cap a b d0 d w0 w R hs S hmb hb hsz hR hC _ rfl
end Go.Proofs.Ytijldpkchmpjkaa
