/- The reading of a list of asks, opened. -/
import Derived.Test.YtbcdalgfceagcaaCrcReadSums
import Derived.Test.YtbcdalgfceagcaaCrcLawHashes
import Derived.Deep.SlicePairs
namespace Go.Proofs.Ytbcdalgfceagcaa
open Go.Joins Go.ChangeShapes Go.WideShapes Go.ChangeAt Go.RowKit Go.Deep

variable {H : Type} {enc : TypeId × Value → H} {w : World}

theorem read_asks {fuel : Nat} {a : Option Addr} {len cap : Nat} {d : DataW H} {ps : List MemPlace}
    (h : DataW.trod enc Try.prog w 0 (fun _ => true) true fuel 54 (Value.slice a len cap).cells.toList = some (d, ps)) :
    len ≤ maxLen ∧ ∃ K A C l, AsksAt w a len K A C l ∧ ∀ i, i < len → A i = none → (l i).length = 0 ∧ C i = 0 := by
  rcases open_slice_pairs Try.underlying54 Try.underlying56 (by kernel_rfl) rfl rfl (by kernel_rfl) (by kernel_rfl) h with ⟨hcs, hx⟩ | ⟨x, l, c, m, n, V0, V1, D0, D1, P0, P1, hcs, _, hl, hm, hmm, hx, hcell⟩
  · simp [Value.cells] at hcs
    obtain ⟨rfl, rfl, rfl⟩ := hcs
    exact ⟨Nat.zero_le _, fun _ => 0, fun _ => none, fun _ => 0, fun _ => [], ⟨fun j hj => by omega, fun j hj => by omega, fun j hj => by omega⟩, fun j hj => by omega⟩
  · simp only [Value.cells, List.cons.injEq, Value.slice.injEq, and_true] at hcs
    obtain ⟨rfl, rfl, rfl⟩ := hcs
    simp only [if_true] at hmm
    subst hmm
    have hX : ∀ i, i < len → ∃ t : Int × Option Addr × Nat × List Nat, (∃ b off, some x = some (⟨b, off, none⟩ : Addr) ∧ w.cell? ⟨b, off + i * 2, none⟩ = some (.int .i64 t.1) ∧ w.cell? ⟨b, off + i * 2 + 1, none⟩ = some (.slice t.2.1 t.2.2.2.length t.2.2.1)) ∧ BytesAt w t.2.1 t.2.2.2 ∧ (t.2.2.2.length ≤ 9223372036854775807 ∧ ∀ c ∈ t.2.2.2, c < 256) ∧ (t.2.1 = none → t.2.2.2.length = 0 ∧ t.2.2.1 = 0) := by
      intro i hi
      obtain ⟨g0, g1, t0, t1⟩ := hcell i (by omega)
      obtain ⟨k, e0, _⟩ := DataW.trod_int Try.underlying3 t0
      obtain ⟨a', l', c', e, hle, hnil, L, rfl, hlt, hb⟩ := read_one t1
      obtain ⟨h3, _⟩ := hcell 0 (by omega)
      obtain ⟨bl, off, spot⟩ := x
      have hspot : spot = none := by simpa [Addr.add] using addr_plain h3
      subst hspot
      simp only [List.cons.injEq, and_true] at e0
      refine ⟨(k, a', c', L), ⟨bl, off, rfl, by rw [← add_plain, g0, e0], by rw [Nat.add_assoc, ← add_plain, g1, e]⟩, hb, ⟨by unfold maxLen at hle; simp only; omega, hlt⟩, hnil⟩
    obtain ⟨T, hT⟩ := choose_lt hX
    exact ⟨Nat.le_trans hl hm, fun i => (T i).1, fun i => (T i).2.1, fun i => (T i).2.2.1, fun i => (T i).2.2.2, ⟨fun i hi => (hT i hi).1, fun i hi => (hT i hi).2.1, fun i hi => (hT i hi).2.2.1⟩, fun i hi => (hT i hi).2.2.2⟩
end Go.Proofs.Ytbcdalgfceagcaa
