/- The readings of a list of ints and of a list of lists of truths, opened. -/
import Derived.Test.YtcdphilgnlcahaaOpen
import Derived.Test.YtcdphilgnlcahaaMost
import Derived.Test.YtcdphilgnlcahaaBulk
namespace Go.Proofs.Ytcdphilgnlcahaa
open Go.ChangeShapes Go.WideShapes Go.ChangeAt Go.RowKit Go.Deep

variable {H : Type} {enc : TypeId × Value → H} {w : World}

theorem read_ints {fuel : Nat} {a : Option Addr} {len cap : Nat} {d : DataW H} {ps : List MemPlace}
    (h : DataW.trod enc Try.prog w 0 (fun _ => true) true fuel 37 (Value.slice a len cap).cells.toList = some (d, ps)) :
    len ≤ maxLen ∧ ∃ q, Ints w a len q := by
  rcases open_slice1 Try.underlying37 (by kernel_rfl) h with ⟨hcs, hx⟩ | ⟨x, l, c, m, n, V, D, Pl, hcs, _, hl, hm, hmm, _, hcell⟩
  · simp [Value.cells] at hcs
    obtain ⟨rfl, rfl, rfl⟩ := hcs
    exact ⟨Nat.zero_le _, fun _ => 0, fun j hj => by omega⟩
  · simp [Value.cells] at hcs
    obtain ⟨rfl, rfl, rfl⟩ := hcs
    simp only [if_true] at hmm
    subst hmm
    refine ⟨Nat.le_trans hl hm, fun j => match V j with | .int _ b => b | _ => 0, fun j hj => ?_⟩
    obtain ⟨h1, h2⟩ := hcell j (by omega)
    obtain ⟨b, e, _⟩ := DataW.trod_int Try.underlying3 h2
    simp only [List.cons.injEq, and_true] at e
    obtain ⟨h3, h4⟩ := hcell 0 (by omega)
    obtain ⟨bl, off, spot⟩ := x
    have hspot : spot = none := by simpa [Addr.add] using addr_plain h3
    subst hspot
    refine ⟨bl, off, rfl, ?_⟩
    rw [← add_plain, h1]; simp only [e]

theorem read_bools' {fuel : Nat} {v : Value} {y : DataW H × List MemPlace}
    (h : DataW.trod enc Try.prog w 0 (fun _ => true) true fuel 22 [v] = some y) :
    ∃ a len cap p, v = .slice a len cap ∧ len ≤ maxLen ∧ Bools w a len p ∧ len ≤ Rows.uptoBulk y.1 := by
  have hs : ∃ a' l' c', v = .slice a' l' c' ∧ l' ≤ Rows.uptoBulk y.1 := by
    rcases open_slice Try.underlying22 h with ⟨hcs, _⟩ | ⟨ad, l, c, m, n, D, Pl, hcs, _, _, _, _, hx, _⟩
    · simp only [List.cons.injEq, and_true] at hcs; exact ⟨_, _, _, hcs, Nat.zero_le _⟩
    · simp only [List.cons.injEq, and_true] at hcs
      refine ⟨_, _, _, hcs, ?_⟩
      rw [hx, ← bulk_slice]
      have := bulk_len ((List.range l).map D)
      simp at this
      omega
  obtain ⟨a', l', c', rfl, hl⟩ := hs
  obtain ⟨h1, p, h2⟩ := read_bools (a := a') (len := l') (cap := c') (d := y.1) (ps := y.2) h
  exact ⟨a', l', c', p, rfl, h1, h2, hl⟩

theorem read_rows {fuel : Nat} {a : Option Addr} {len cap : Nat} {d : DataW H} {ps : List MemPlace}
    (h : DataW.trod enc Try.prog w 0 (fun _ => true) true fuel 46 (Value.slice a len cap).cells.toList = some (d, ps)) :
    len ≤ maxLen ∧ ∃ A L C p, RowsAt w a len A L C p ∧ ∀ i, i < len → L i ≤ Rows.uptoBulk d := by
  rcases open_slice1 Try.underlying46 (by kernel_rfl) h with ⟨hcs, hx⟩ | ⟨x, l, c, m, n, V, D, Pl, hcs, _, hl, hm, hmm, hx, hcell⟩
  · simp [Value.cells] at hcs
    obtain ⟨rfl, rfl, rfl⟩ := hcs
    exact ⟨Nat.zero_le _, fun _ => none, fun _ => 0, fun _ => 0, fun _ _ => false, ⟨fun j hj => by omega, fun j hj => by omega⟩, fun j hj => by omega⟩
  · simp only [Value.cells, List.cons.injEq, Value.slice.injEq, and_true] at hcs
    obtain ⟨rfl, rfl, rfl⟩ := hcs
    simp only [if_true] at hmm
    subst hmm
    simp only [Prod.mk.injEq] at hx
    have hX : ∀ i, i < len → ∃ t : Option Addr × Nat × Nat × (Nat → Bool), (∃ b off, some x = some (⟨b, off, none⟩ : Addr) ∧ w.cell? ⟨b, off + i, none⟩ = some (.slice t.1 t.2.1 t.2.2.1)) ∧ Bools w t.1 t.2.1 t.2.2.2 ∧ t.2.1 ≤ Rows.uptoBulk d := by
      intro i hi
      obtain ⟨h1, h2⟩ := hcell i (by omega)
      obtain ⟨a', l', c', p, e, _, hb, hbk⟩ := read_bools' h2
      obtain ⟨h3, h4⟩ := hcell 0 (by omega)
      obtain ⟨bl, off, spot⟩ := x
      have hspot : spot = none := by simpa [Addr.add] using addr_plain h3
      subst hspot
      refine ⟨(a', l', c', p), ⟨bl, off, rfl, by rw [← add_plain, h1, e]⟩, hb, ?_⟩
      have hmem : D i ∈ (List.range len).map D := List.mem_map.2 ⟨i, by simpa using hi, rfl⟩
      have := bulk_mem hmem
      have hbk' : l' ≤ Rows.uptoBulk (D i) := hbk
      show l' ≤ Rows.uptoBulk d
      rw [hx.1, ← bulk_slice]
      omega
    obtain ⟨T, hT⟩ := choose_lt hX
    exact ⟨Nat.le_trans hl hm, fun i => (T i).1, fun i => (T i).2.1, fun i => (T i).2.2.1, fun i => (T i).2.2.2, ⟨fun i hi => (hT i hi).1, fun i hi => (hT i hi).2.1⟩, fun i hi => (hT i hi).2.2⟩
end Go.Proofs.Ytcdphilgnlcahaa
