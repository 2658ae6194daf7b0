/- Readings of slices of numbers. -/
import Derived.Test.YthbknahmmegcdaaIxOpen
import Derived.Test.YthbknahmmegcdaaBase
namespace Go.Proofs.Ythbknahmmegcdaa
open Go.Joins Go.ChangeShapes Go.WideShapes Go.ChangeAt Go.RowKit Go.Deep
set_option linter.unusedSectionVars false

section
variable {H : Type} {enc : TypeId × Value → H} {w : World}
theorem u16_wf {n : Int} (h : (Lit.int .u16 n).wf = true) : 0 ≤ n ∧ n < 65536 := by
  have : 0 ≤ n ∧ n ≤ 65535 := by simpa [Lit.wf, IntKind.min, IntKind.max, IntKind.signed, IntKind.bits] using h
  omega
theorem read_u16s {fuel : Nat} {a : Option Addr} {len cap : Nat} {d : DataW H} {ps : List MemPlace}
    (h : DataW.trod enc Try.prog w 0 (fun _ => true) true fuel 22 (Value.slice a len cap).cells.toList = some (d, ps)) :
    len ≤ maxLen ∧ len ≤ cap ∧ (a = none → len = 0 ∧ cap = 0) ∧ ∃ sz : Nat → Nat, (∀ j, j < len → sz j < 65536) ∧ CellsAt w a len (fun j => .int .u16 (sz j : Nat)) := by
  rcases open_slice1 Try.underlying22 (by kernel_rfl) h with ⟨hcs, hx⟩ | ⟨x, l, c, m, n, V, D, Pl, hcs, _, hl, hm, hmm, _, hcell⟩
  · simp [Value.cells] at hcs
    obtain ⟨rfl, rfl, rfl⟩ := hcs
    exact ⟨Nat.zero_le _, Nat.le_refl _, fun _ => ⟨rfl, rfl⟩, fun _ => 0, fun j hj => by omega, fun j hj => by omega⟩
  · simp [Value.cells] at hcs
    obtain ⟨rfl, rfl, rfl⟩ := hcs
    simp only [if_true] at hmm
    subst hmm
    have hb : ∀ j, j < len → ∃ n : Nat, n < 65536 ∧ w.cell? (x.add j) = some (.int .u16 n) := fun j hj => by
      obtain ⟨h1, h2⟩ := hcell j (by omega)
      obtain ⟨n, e, _, hwf⟩ := DataW.trod_int Try.underlying32 h2
      obtain ⟨h3, h4⟩ := u16_wf hwf
      simp only [List.cons.injEq, and_true] at e
      exact ⟨n.toNat, by omega, by rw [h1, e, Int.toNat_of_nonneg h3]⟩
    refine ⟨Nat.le_trans hl hm, hl, (fun e => by cases e), fun j => if h : j < len then (hb j h).choose else 0, ?_, ?_⟩
    · intro j hj
      simp only [dif_pos hj]
      exact (hb j hj).choose_spec.1
    · intro j hj
      have h0 := (hb 0 (by omega)).choose_spec.2
      obtain ⟨bl, off, spot⟩ := x
      have hspot : spot = none := by simpa [Addr.add] using addr_plain h0
      subst hspot
      refine ⟨bl, off, rfl, ?_⟩
      simp only [dif_pos hj]
      rw [← add_plain]
      exact (hb j hj).choose_spec.2
theorem u8_wf {n : Int} (h : (Lit.int .u8 n).wf = true) : 0 ≤ n ∧ n < 256 := by
  have : 0 ≤ n ∧ n ≤ 255 := by simpa [Lit.wf, IntKind.min, IntKind.max, IntKind.signed, IntKind.bits] using h
  omega
theorem read_u8s {fuel : Nat} {a : Option Addr} {len cap : Nat} {d : DataW H} {ps : List MemPlace}
    (h : DataW.trod enc Try.prog w 0 (fun _ => true) true fuel 43 (Value.slice a len cap).cells.toList = some (d, ps)) :
    len ≤ maxLen ∧ len ≤ cap ∧ (a = none → len = 0 ∧ cap = 0) ∧ ∃ sz : Nat → Nat, (∀ j, j < len → sz j < 256) ∧ CellsAt w a len (fun j => .int .u8 (sz j : Nat)) := by
  rcases open_slice1 Try.underlying43 (by kernel_rfl) h with ⟨hcs, hx⟩ | ⟨x, l, c, m, n, V, D, Pl, hcs, _, hl, hm, hmm, _, hcell⟩
  · simp [Value.cells] at hcs
    obtain ⟨rfl, rfl, rfl⟩ := hcs
    exact ⟨Nat.zero_le _, Nat.le_refl _, fun _ => ⟨rfl, rfl⟩, fun _ => 0, fun j hj => by omega, fun j hj => by omega⟩
  · simp [Value.cells] at hcs
    obtain ⟨rfl, rfl, rfl⟩ := hcs
    simp only [if_true] at hmm
    subst hmm
    have hb : ∀ j, j < len → ∃ n : Nat, n < 256 ∧ w.cell? (x.add j) = some (.int .u8 n) := fun j hj => by
      obtain ⟨h1, h2⟩ := hcell j (by omega)
      obtain ⟨n, e, _, hwf⟩ := DataW.trod_int Try.underlying5 h2
      obtain ⟨h3, h4⟩ := u8_wf hwf
      simp only [List.cons.injEq, and_true] at e
      exact ⟨n.toNat, by omega, by rw [h1, e, Int.toNat_of_nonneg h3]⟩
    refine ⟨Nat.le_trans hl hm, hl, (fun e => by cases e), fun j => if h : j < len then (hb j h).choose else 0, ?_, ?_⟩
    · intro j hj
      simp only [dif_pos hj]
      exact (hb j hj).choose_spec.1
    · intro j hj
      have h0 := (hb 0 (by omega)).choose_spec.2
      obtain ⟨bl, off, spot⟩ := x
      have hspot : spot = none := by simpa [Addr.add] using addr_plain h0
      subst hspot
      refine ⟨bl, off, rfl, ?_⟩
      simp only [dif_pos hj]
      rw [← add_plain]
      exact (hb j hj).choose_spec.2
end
end Go.Proofs.Ythbknahmmegcdaa
