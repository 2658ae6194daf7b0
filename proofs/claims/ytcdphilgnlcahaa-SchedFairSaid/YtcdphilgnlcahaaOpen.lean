/- What the readings of the arguments give: slices of bools, of ints. -/
import Derived.Test.YtcdphilgnlcahaaRows
import Derived.Test.YtcdphilgnlcahaaPick
import Derived.ProofKit
import Derived.OpenShut
import Derived.ChangeOld
import Derived.Below
import Derived.Deep.Slices
import Derived.ChangeArms
import Derived.ChangeSame
namespace Go.Proofs.Ytcdphilgnlcahaa
open Go.ChangeShapes Go.WideShapes Go.ChangeAt Go.RowKit Go.Deep

theorem Try.own : ownKnob Try.prog.godebug = none := by kernel_rfl
theorem Try.laidOut : laidOutB Try.prog = true := by kernel_rfl

section
variable {H : Type} {enc : TypeId × Value → H} {w : World}

theorem addr_plain {w : World} {a : Addr} {u : Value} (h : w.cell? a = some u) : a.spot = none := by
  have := World.cell?_spot h; simpa using this

theorem read_bools {fuel : Nat} {a : Option Addr} {len cap : Nat} {d : DataW H} {ps : List MemPlace}
    (h : DataW.trod enc Try.prog w 0 (fun _ => true) true fuel 22 (Value.slice a len cap).cells.toList = some (d, ps)) :
    len ≤ maxLen ∧ ∃ p, Bools w a len p := by
  rcases open_slice1 Try.underlying22 (by kernel_rfl) h with ⟨hcs, hx⟩ | ⟨x, l, c, m, n, V, D, Pl, hcs, _, hl, hm, hmm, _, hcell⟩
  · simp [Value.cells] at hcs
    obtain ⟨rfl, rfl, rfl⟩ := hcs
    exact ⟨Nat.zero_le _, fun _ => false, fun j hj => by omega⟩
  · simp [Value.cells] at hcs
    obtain ⟨rfl, rfl, rfl⟩ := hcs
    simp only [if_true] at hmm
    subst hmm
    refine ⟨Nat.le_trans hl hm, fun j => match V j with | .bool b => b | _ => false, fun j hj => ?_⟩
    obtain ⟨h1, h2⟩ := hcell j (by omega)
    obtain ⟨b, e, _⟩ := DataW.trod_bool Try.underlying4 h2
    simp only [List.cons.injEq, and_true] at e
    obtain ⟨h3, h4⟩ := hcell 0 (by omega)
    obtain ⟨bl, off, spot⟩ := x
    have hspot : spot = none := by simpa [Addr.add] using addr_plain h3
    subst hspot
    refine ⟨bl, off, rfl, ?_⟩
    rw [← add_plain, h1]; simp only [e]

/-- every field of every element of a slice of structs whose fields are one cell each: its cell, its reading -/
theorem read_fields {P : Program} {t e : TypeId} {fs : Array Field} {K fuel : Nat} {a : Option Addr} {len cap : Nat} {x : DataW H × List MemPlace} (ht : P.underlying t = some (.slice e)) (he : P.underlying e = some (.struct fs))
    (hone : ∀ (j : Nat) (f : Field), fs[j]? = some f → f.offset = j ∧ P.cellsOf f.type = 1 ∧ j < K) (hC : P.cellsOf e = K) (hK : 0 < K)
    (h : DataW.trod enc P w 0 (fun _ => true) true fuel t (Value.slice a len cap).cells.toList = some x) :
    len ≤ maxLen ∧ (a = none → len = 0 ∧ cap = 0) ∧ (∀ i, i < len → ∃ b off, a = some ⟨b, off, none⟩ ∧ ∀ (j : Nat) (f : Field), fs[j]? = some f → ∃ (v : Value) (y : DataW H × List MemPlace) (n : Nat),
      w.cell? ⟨b, off + (i * K + j), none⟩ = some v ∧ DataW.trod enc P w 0 (fun _ => true) true n f.type [v] = some y) := by
  rcases open_slice ht h with ⟨hcs, _⟩ | ⟨ad, l, c, m, n, D, Pl, hcs, _, hl, hm, hmm, _, hx⟩
  · simp only [Value.cells, List.cons.injEq, Value.slice.injEq, and_true] at hcs
    obtain ⟨rfl, rfl, rfl⟩ := hcs
    exact ⟨Nat.zero_le _, fun _ => ⟨rfl, rfl⟩, fun i hi => absurd hi (Nat.not_lt_zero _)⟩
  · simp only [Value.cells, List.cons.injEq, Value.slice.injEq, and_true] at hcs
    obtain ⟨rfl, rfl, rfl⟩ := hcs
    simp only [if_true] at hmm
    subst hmm
    refine ⟨Nat.le_trans hl hm, (fun e => by cases e), fun i hi => ?_⟩
    obtain ⟨cs', hc, htr⟩ := hx i (by omega)
    rw [hC] at hc
    obtain ⟨xs, n', _, _, _, hxs, hf⟩ := DataW.trod_struct he htr
    obtain ⟨_, hlen, hat⟩ := World.cells?_some hc
    obtain ⟨bl, off, spot⟩ := ad
    have hspot : spot = none := by
      obtain ⟨cs0, hc0, _⟩ := hx 0 (by omega)
      rw [hC] at hc0
      obtain ⟨_, hl0, hat0⟩ := World.cells?_some hc0
      have h0 := hat0 0 hK
      rw [List.getElem?_eq_getElem (by omega)] at h0
      have := addr_plain h0
      simpa [Addr.add] using this
    subst hspot
    refine ⟨bl, off, rfl, fun j f hj => ?_⟩
    obtain ⟨h1, h2, h3⟩ := hone j f hj
    have hcell := hat j h3
    rw [List.getElem?_eq_getElem (by omega), Go.Deep.add_add, add_plain] at hcell
    have hfj := hf j f hj
    have hjx : j < xs.length := by rw [hxs]; exact (Array.getElem?_eq_some_iff.1 hj).1
    rw [h1, h2, List.getElem?_eq_getElem hjx, List.drop_eq_getElem_cons (by omega), List.take_succ_cons, List.take_zero] at hfj
    exact ⟨_, _, _, hcell, hfj⟩

theorem read_nil {fuel : Nat} {a : Option Addr} {len cap : Nat} {d : DataW H} {ps : List MemPlace}
    (h : DataW.trod enc Try.prog w 0 (fun _ => true) true fuel 22 (Value.slice a len cap).cells.toList = some (d, ps)) : a = none → len = 0 ∧ cap = 0 := by
  rcases open_slice Try.underlying22 h with ⟨hcs, hx⟩ | ⟨x, l, c, m, n, D, Pl, hcs, _⟩
  · simp [Value.cells] at hcs
    exact fun _ => hcs.2
  · simp [Value.cells] at hcs
    intro e
    rw [hcs.1] at e
    cases e
end
end Go.Proofs.Ytcdphilgnlcahaa
