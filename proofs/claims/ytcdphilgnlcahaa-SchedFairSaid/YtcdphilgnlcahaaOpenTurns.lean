/- The reading of a list of turns, opened. -/
import Derived.Test.YtcdphilgnlcahaaOpen
import Derived.Test.YtcdphilgnlcahaaTurnsOf
namespace Go.Proofs.Ytcdphilgnlcahaa
open Go.ChangeShapes Go.WideShapes Go.ChangeAt Go.RowKit Go.Deep

theorem read_turns {H : Type} {enc : TypeId × Value → H} {w : World} {fuel : Nat} {a : Option Addr} {len cap : Nat} {d : DataW H} {ps : List MemPlace}
    (h : DataW.trod enc Try.prog w 0 (fun _ => true) true fuel 31 (Value.slice a len cap).cells.toList = some (d, ps)) :
    len ≤ maxLen ∧ ∃ A L C K p, TurnsAt w a len A L C K p := by
  obtain ⟨h1, _, h3⟩ := read_fields (K := 2) Try.underlying31 Try.underlying42 (by
    intro j f hj
    match j, hj with
    | 0, hj => simp at hj; subst hj; exact ⟨rfl, by kernel_rfl, by omega⟩
    | 1, hj => simp at hj; subst hj; exact ⟨rfl, by kernel_rfl, by omega⟩) (by kernel_rfl) (by omega) h
  have hX : ∀ i, i < len → ∃ (t : Option Addr × Nat × Nat × Int × (Nat → Bool)), (∃ b off, a = some ⟨b, off, none⟩ ∧ w.cell? ⟨b, off + i * 2, none⟩ = some (.slice t.1 t.2.1 t.2.2.1) ∧ w.cell? ⟨b, off + i * 2 + 1, none⟩ = some (.int .i64 t.2.2.2.1)) ∧
      Bools w t.1 t.2.1 t.2.2.2.2 ∧ t.2.1 ≤ 9223372036854775807 ∧ -9223372036854775808 ≤ t.2.2.2.1 ∧ t.2.2.2.1 ≤ 9223372036854775807 := by
    intro i hi
    obtain ⟨b, off, e, hf⟩ := h3 i hi
    obtain ⟨v0, y0, n0, c0, r0⟩ := hf 0 _ rfl
    obtain ⟨v1, y1, n1, c1, r1⟩ := hf 1 _ rfl
    obtain ⟨k, e1, _, hk⟩ := DataW.trod_int Try.underlying3 r1
    simp only [List.cons.injEq, and_true] at e1
    subst e1
    have hs : ∃ a' l' c', v0 = .slice a' l' c' := by
      rcases open_slice Try.underlying22 r0 with ⟨hcs, _⟩ | ⟨ad, l, c, m, n, D, Pl, hcs, _⟩
      · simp only [List.cons.injEq, and_true] at hcs; exact ⟨_, _, _, hcs⟩
      · simp only [List.cons.injEq, and_true] at hcs; exact ⟨_, _, _, hcs⟩
    obtain ⟨a', l', c', rfl⟩ := hs
    obtain ⟨g1, p, g2⟩ := read_bools (a := a') (len := l') (cap := c') (d := y0.1) (ps := y0.2) r0
    refine ⟨(a', l', c', k, p), ⟨b, off, e, by simpa using c0, by simpa [Nat.add_assoc] using c1⟩, g2, by unfold maxLen at g1; simp only; omega, ?_⟩
    simpa [Lit.wf, IntKind.min, IntKind.max, IntKind.signed, IntKind.bits] using hk
  obtain ⟨T, hT⟩ := choose_lt hX
  refine ⟨h1, fun i => (T i).1, fun i => (T i).2.1, fun i => (T i).2.2.1, fun i => (T i).2.2.2.1, fun i => (T i).2.2.2.2, ⟨fun i hi => (hT i hi).1, fun i hi => (hT i hi).2.1, ?_, fun i hi => (hT i hi).2.2⟩⟩
  intro i hi b off e
  by_cases h0 : (T i).2.1 = 0
  · exact .inl h0
  · obtain ⟨b', off', e', hc⟩ := (hT i hi).2.1 0 (by omega)
    have e'' := e.symm.trans e'
    injection e'' with e''
    injection e'' with e1 e2
    subst e1
    exact .inr (World.block_lt_of_cell? w _ hc)
end Go.Proofs.Ytcdphilgnlcahaa
