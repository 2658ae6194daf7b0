/- The reading of a script of steps. -/
import Derived.Test.YthbknahmmegcdaaIxReadU
import Derived.Test.YthbknahmmegcdaaIxPlay
namespace Go.Proofs.Ythbknahmmegcdaa
open Go.Joins Go.ChangeShapes Go.WideShapes Go.ChangeAt Go.RowKit Go.Deep
set_option linter.unusedSectionVars false

section
variable {H : Type} {enc : TypeId × Value → H} {w : World}
theorem read_step {fuel : Nat} {l : List Value} {x : DataW H × List MemPlace} (hsz : l.length = 4)
    (h : DataW.trod enc Try.prog w 0 (fun _ => true) true fuel 61 l = some x) :
    ∃ s : St4, l = [.int .i64 s.k, .int .i64 s.o, .int .i64 s.p, .int .i64 s.n] := by
  match l, hsz with
  | [c0, c1, c2, c3], _ =>
    obtain ⟨xs, n, _, hx, _, hlen, hg⟩ := DataW.trod_struct Try.underlying61 h
    have g : ∀ (j : Nat), j < 3 → ∃ y, xs[j]? = some y := fun j hj => ⟨_, List.getElem?_eq_getElem (by rw [hlen]; exact hj)⟩
    obtain ⟨y0, e0⟩ := g 0 (by omega)
    obtain ⟨y1, e1⟩ := g 1 (by omega)
    obtain ⟨y2, e2⟩ := g 2 (by omega)
    have g0 := (hg 0 _ rfl).trans e0
    have g1 := (hg 1 _ rfl).trans e1
    have g2 := (hg 2 _ rfl).trans e2
    have k0 : Try.prog.cellsOf 31 = 2 := by kernel_rfl
    have k1 : Try.prog.cellsOf 2 = 1 := by kernel_rfl
    have k2 : Try.prog.cellsOf 3 = 1 := by kernel_rfl
    obtain ⟨m0, q0, _, w0⟩ := DataW.trod_int Try.underlying3 g0
    obtain ⟨m2, q2, _, w2⟩ := DataW.trod_int Try.underlying2 g2
    simp [k1, k2] at q0 q2
    subst q0 q2
    obtain ⟨xs0, n0, _, hx0, _, hlen0, hg0⟩ := DataW.trod_struct Try.underlying31 g1
    have gg : ∀ (j : Nat), j < 2 → ∃ y, xs0[j]? = some y := fun j hj => ⟨_, List.getElem?_eq_getElem (by rw [hlen0]; exact hj)⟩
    obtain ⟨z0, f0⟩ := gg 0 (by omega)
    obtain ⟨z1, f1⟩ := gg 1 (by omega)
    have r0 := (hg0 0 _ rfl).trans f0
    have r1 := (hg0 1 _ rfl).trans f1
    obtain ⟨a0, u0, _⟩ := DataW.trod_int Try.underlying2 r0
    obtain ⟨a1, u1, _⟩ := DataW.trod_int Try.underlying3 r1
    simp [k0, k1, k2] at u0 u1
    subst u0 u1
    exact ⟨⟨m0, a0, a1, m2⟩, rfl⟩
theorem read_steps {fuel : Nat} {a : Option Addr} {len cap : Nat} {x : DataW H × List MemPlace}
    (h : DataW.trod enc Try.prog w 0 (fun _ => true) true fuel 57 (Value.slice a len cap).cells.toList = some x) :
    len ≤ maxLen ∧ ∃ F : Nat → St4, StepsAt w a len F := by
  have hC : Try.prog.cellsOf 61 = 4 := by kernel_rfl
  rcases open_slice Try.underlying57 h with ⟨hcs, _⟩ | ⟨ad, l, c, m, n, D, Pl, hcs, _, hl, hm, hmm, _, hx⟩
  · simp only [Value.cells, List.cons.injEq, Value.slice.injEq, and_true] at hcs
    obtain ⟨rfl, rfl, rfl⟩ := hcs
    exact ⟨Nat.zero_le _, fun _ => default, fun i hi => absurd hi (Nat.not_lt_zero _)⟩
  · simp only [Value.cells, List.cons.injEq, Value.slice.injEq, and_true] at hcs
    obtain ⟨rfl, rfl, rfl⟩ := hcs
    simp only [if_true] at hmm
    subst hmm
    have hX : ∀ i, i < len → ∃ s : St4, ∃ b off, some ad = some (⟨b, off, none⟩ : Addr) ∧ w.cell? ⟨b, off + i * 4, none⟩ = some (.int .i64 s.k) ∧ w.cell? ⟨b, off + i * 4 + 1, none⟩ = some (.int .i64 s.o) ∧ w.cell? ⟨b, off + i * 4 + 2, none⟩ = some (.int .i64 s.p) ∧ w.cell? ⟨b, off + i * 4 + 3, none⟩ = some (.int .i64 s.n) := by
      intro i hi
      obtain ⟨cs', hc, htr⟩ := hx i (by omega)
      rw [hC] at hc
      obtain ⟨_, hlen, hat⟩ := World.cells?_some hc
      obtain ⟨s, rfl⟩ := read_step hlen htr
      obtain ⟨bl, off, spot⟩ := ad
      have hspot : spot = none := by
        obtain ⟨cs0, hc0, _⟩ := hx 0 (by omega)
        rw [hC] at hc0
        obtain ⟨_, hl0, hat0⟩ := World.cells?_some hc0
        have h0 := hat0 0 (by omega)
        rw [List.getElem?_eq_getElem (by omega)] at h0
        have := addr_plain h0
        simpa [Addr.add] using this
      subst hspot
      have hcell : ∀ j, j < 4 → w.cell? ⟨bl, off + (i * 4 + j), none⟩ = [Value.int .i64 s.k, .int .i64 s.o, .int .i64 s.p, .int .i64 s.n][j]? := fun j hj => by
        have h1 := hat j hj
        rw [Go.Deep.add_add, add_plain] at h1
        exact h1
      refine ⟨s, bl, off, rfl, ?_, ?_, ?_, ?_⟩
      · have := hcell 0 (by omega); simpa using this
      · have := hcell 1 (by omega); rw [Nat.add_assoc]; simpa using this
      · have := hcell 2 (by omega); rw [Nat.add_assoc]; simpa using this
      · have := hcell 3 (by omega); rw [Nat.add_assoc]; simpa using this
    obtain ⟨T, hT⟩ := choose_lt hX
    exact ⟨Nat.le_trans hl hm, T, hT⟩
end
end Go.Proofs.Ythbknahmmegcdaa
