/- The reading of a list of texts, opened. -/
import Derived.Test.YtbcdalgfceagcaaCrcRead
namespace Go.Proofs.Ytbcdalgfceagcaa
open Go.Joins Go.ChangeShapes Go.WideShapes Go.ChangeAt Go.RowKit Go.Deep

variable {H : Type} {enc : TypeId × Value → H} {w : World}

theorem read_one {fuel : Nat} {v : Value} {y : DataW H × List MemPlace}
    (h : DataW.trod enc Try.prog w 0 (fun _ => true) true fuel 22 [v] = some y) :
    ∃ a len cap, v = .slice a len cap ∧ len ≤ maxLen ∧ (a = none → len = 0 ∧ cap = 0) ∧ ∃ l : List Nat, len = l.length ∧ (∀ c ∈ l, c < 256) ∧ BytesAt w a l := by
  have hs : ∃ a' l' c', v = .slice a' l' c' := by
    rcases open_slice Try.underlying22 h with ⟨hcs, _⟩ | ⟨ad, l, c, m, n, D, Pl, hcs, _⟩
    · simp only [List.cons.injEq, and_true] at hcs; exact ⟨_, _, _, hcs⟩
    · simp only [List.cons.injEq, and_true] at hcs; exact ⟨_, _, _, hcs⟩
  obtain ⟨a', l', c', rfl⟩ := hs
  obtain ⟨h1, _, h3, h4⟩ := read_bytes (a := a') (len := l') (cap := c') (d := y.1) (ps := y.2) h
  exact ⟨a', l', c', rfl, h1, h3, h4⟩

theorem read_texts {fuel : Nat} {a : Option Addr} {len cap : Nat} {d : DataW H} {ps : List MemPlace}
    (h : DataW.trod enc Try.prog w 0 (fun _ => true) true fuel 40 (Value.slice a len cap).cells.toList = some (d, ps)) :
    len ≤ maxLen ∧ ∃ A C l, PartsAt w a len A C l ∧ ∀ i, i < len → A i = none → (l i).length = 0 ∧ C i = 0 := by
  rcases open_slice1 Try.underlying40 (by kernel_rfl) h with ⟨hcs, hx⟩ | ⟨x, l, c, m, n, V, D, Pl, hcs, _, hl, hm, hmm, hx, hcell⟩
  · simp [Value.cells] at hcs
    obtain ⟨rfl, rfl, rfl⟩ := hcs
    exact ⟨Nat.zero_le _, fun _ => none, fun _ => 0, fun _ => [], ⟨fun j hj => by omega, fun j hj => by omega, fun j hj => by omega⟩, fun j hj => by omega⟩
  · simp only [Value.cells, List.cons.injEq, Value.slice.injEq, and_true] at hcs
    obtain ⟨rfl, rfl, rfl⟩ := hcs
    simp only [if_true] at hmm
    subst hmm
    have hX : ∀ i, i < len → ∃ t : Option Addr × Nat × List Nat, (∃ b off, some x = some (⟨b, off, none⟩ : Addr) ∧ w.cell? ⟨b, off + i, none⟩ = some (.slice t.1 t.2.2.length t.2.1)) ∧ BytesAt w t.1 t.2.2 ∧ (t.2.2.length ≤ 9223372036854775807 ∧ ∀ c ∈ t.2.2, c < 256) ∧ (t.1 = none → t.2.2.length = 0 ∧ t.2.1 = 0) := by
      intro i hi
      obtain ⟨h1, h2⟩ := hcell i (by omega)
      obtain ⟨a', l', c', e, hle, hnil, L, rfl, hlt, hb⟩ := read_one h2
      obtain ⟨h3, h4⟩ := hcell 0 (by omega)
      obtain ⟨bl, off, spot⟩ := x
      have hspot : spot = none := by simpa [Addr.add] using addr_plain h3
      subst hspot
      refine ⟨(a', c', L), ⟨bl, off, rfl, by rw [← add_plain, h1, e]⟩, hb, ⟨by unfold maxLen at hle; simp only; omega, hlt⟩, hnil⟩
    obtain ⟨T, hT⟩ := choose_lt hX
    exact ⟨Nat.le_trans hl hm, fun i => (T i).1, fun i => (T i).2.1, fun i => (T i).2.2, ⟨fun i hi => (hT i hi).1, fun i hi => (hT i hi).2.1, fun i hi => (hT i hi).2.2.1⟩, fun i hi => (hT i hi).2.2.2⟩
end Go.Proofs.Ytbcdalgfceagcaa
