/- What the reading of a list of turns gives. -/
import Derived.Test.YtcdphilgnlcahaaPick
namespace Go.Proofs.Ytcdphilgnlcahaa
open Go.RowKit

/-- a list of turns in memory: which can go on (A, L, C: the list; p: its truths), the picks K -/
structure TurnsAt (w : World) (a : Option Addr) (n : Nat) (A : Nat → Option Addr) (L C : Nat → Nat) (K : Nat → Int) (p : Nat → Nat → Bool) : Prop where
  at_ : ∀ i, i < n → ∃ b off, a = some ⟨b, off, none⟩ ∧ w.cell? ⟨b, off + i * 2, none⟩ = some (.slice (A i) (L i) (C i)) ∧ w.cell? ⟨b, off + i * 2 + 1, none⟩ = some (.int .i64 (K i))
  can : ∀ i, i < n → Bools w (A i) (L i) (p i)
  old : ∀ i, i < n → ∀ b off, A i = some ⟨b, off, none⟩ → L i = 0 ∨ b < w.heap.size
  size : ∀ i, i < n → L i ≤ 9223372036854775807 ∧ -9223372036854775808 ≤ K i ∧ K i ≤ 9223372036854775807

theorem TurnsAt.below {w w' : World} {a : Option Addr} {n : Nat} {A : Nat → Option Addr} {L C : Nat → Nat} {K : Nat → Int} {p : Nat → Nat → Bool} (h : TurnsAt w a n A L C K p) (hb : Below w.heap.size w w') : TurnsAt w' a n A L C K p := by
  refine ⟨fun i hi => ?_, fun i hi => (h.can i hi).below hb, fun i hi b off e => (h.old i hi b off e).imp id (fun h => Nat.lt_of_lt_of_le h hb.size), h.size⟩
  obtain ⟨b, off, rfl, h1, h2⟩ := h.at_ i hi
  exact ⟨b, off, rfl, (hb.cell (World.block_lt_of_cell? w _ h1)).trans h1, (hb.cell (World.block_lt_of_cell? w _ h2)).trans h2⟩
end Go.Proofs.Ytcdphilgnlcahaa
