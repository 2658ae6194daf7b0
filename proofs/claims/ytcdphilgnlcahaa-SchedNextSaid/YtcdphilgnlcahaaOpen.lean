/- What the readings of the arguments give: slices of bools, of ints. -/
import Derived.Test.YtcdphilgnlcahaaRows
import Derived.Test.YtcdphilgnlcahaaPick
import Derived.ProofKit
import Derived.OpenShut
import Derived.ChangeOld
import Derived.Below
import Derived.Deep.Slices
namespace Go.Proofs.Ytcdphilgnlcahaa
open Go.ChangeShapes Go.WideShapes Go.ChangeAt Go.RowKit Go.Deep

theorem Try.own : ownKnob Try.prog.godebug = none := by kernel_rfl
theorem Try.laidOut : laidOutB Try.prog = true := by kernel_rfl

section
variable {H : Type} {enc : TypeId × Value → H} {w : World}

theorem addr_plain {w : World} {a : Addr} {u : Value} (h : w.cell? a = some u) : a.spot = none := by
  have := World.cell?_spot h; simpa using this

theorem read_bools {fuel : Nat} {a : Option Addr} {len cap : Nat} {d : DataW H} {ps : List MemPlace}
    (h : DataW.trod enc Try.prog w 0 (fun _ => true) true fuel 22 (Value.slice a len cap).cells.toList = some (d, ps)) :
    len ≤ maxLen ∧ ∃ p, Bools w a len p := by
  rcases open_slice1 Try.underlying22 (by kernel_rfl) h with ⟨hcs, hx⟩ | ⟨x, l, c, m, n, V, D, Pl, hcs, _, hl, hm, hmm, _, hcell⟩
  · simp [Value.cells] at hcs
    obtain ⟨rfl, rfl, rfl⟩ := hcs
    exact ⟨Nat.zero_le _, fun _ => false, fun j hj => by omega⟩
  · simp [Value.cells] at hcs
    obtain ⟨rfl, rfl, rfl⟩ := hcs
    simp only [if_true] at hmm
    subst hmm
    refine ⟨Nat.le_trans hl hm, fun j => match V j with | .bool b => b | _ => false, fun j hj => ?_⟩
    obtain ⟨h1, h2⟩ := hcell j (by omega)
    obtain ⟨b, e, _⟩ := DataW.trod_bool Try.underlying4 h2
    simp only [List.cons.injEq, and_true] at e
    obtain ⟨h3, h4⟩ := hcell 0 (by omega)
    obtain ⟨bl, off, spot⟩ := x
    have hspot : spot = none := by simpa [Addr.add] using addr_plain h3
    subst hspot
    refine ⟨bl, off, rfl, ?_⟩
    rw [← add_plain, h1]; simp only [e]

theorem read_nil {fuel : Nat} {a : Option Addr} {len cap : Nat} {d : DataW H} {ps : List MemPlace}
    (h : DataW.trod enc Try.prog w 0 (fun _ => true) true fuel 22 (Value.slice a len cap).cells.toList = some (d, ps)) : a = none → len = 0 ∧ cap = 0 := by
  rcases open_slice Try.underlying22 h with ⟨hcs, hx⟩ | ⟨x, l, c, m, n, D, Pl, hcs, _⟩
  · simp [Value.cells] at hcs
    exact fun _ => hcs.2
  · simp [Value.cells] at hcs
    intro e
    rw [hcs.1] at e
    cases e
end
end Go.Proofs.Ytcdphilgnlcahaa
