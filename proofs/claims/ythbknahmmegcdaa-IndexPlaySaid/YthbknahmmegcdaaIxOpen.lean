/- What the readings of the arguments give: a spot. -/
import Derived.Test.YthbknahmmegcdaaRows
import Derived.Test.YthbknahmmegcdaaIxKnown
import Derived.ProofKit
import Derived.OpenShut
import Derived.ChangeOld
import Derived.Below
import Derived.Deep.Slices
import Derived.Deep.Fields
import Derived.ChangeArms
import Derived.ChangeSame
import Derived.Lib.SmallJoins
namespace Go.Proofs.Ythbknahmmegcdaa
open Go.Joins Go.ChangeShapes Go.WideShapes Go.ChangeAt Go.RowKit Go.Deep

theorem Try.own : ownKnob Try.prog.godebug = none := by kernel_rfl
theorem Try.laidOut : laidOutB Try.prog = true := by kernel_rfl

section
variable {H : Type} {enc : TypeId × Value → H} {w : World}

theorem addr_plain {w : World} {a : Addr} {u : Value} (h : w.cell? a = some u) : a.spot = none := by
  have := World.cell?_spot h; simpa using this
theorem i64_wf {n : Int} (h : (Lit.int .i64 n).wf = true) : -9223372036854775808 ≤ n ∧ n ≤ 9223372036854775807 := by
  simpa [Lit.wf, IntKind.min, IntKind.max, IntKind.signed, IntKind.bits] using h

theorem read_spot {fuel : Nat} {cs : Array Value} {d : DataW H} {ps : List MemPlace} (hsz : cs.size = Try.prog.cellsOf 31)
    (h : DataW.trod enc Try.prog w 0 (fun _ => true) true fuel 31 (Value.agg cs).cells.toList = some (d, ps)) :
    ∃ s : S2, cs = spotV s := by
  obtain ⟨l⟩ := cs
  have hC : Try.prog.cellsOf 31 = 2 := by kernel_rfl
  match l, hsz.trans hC with
  | [c0, c1], _ =>
    obtain ⟨xs, n, _, hx, _, hlen, hg⟩ := DataW.trod_struct Try.underlying31 h
    have g : ∀ (j : Nat), j < 2 → ∃ y, xs[j]? = some y := fun j hj => ⟨_, List.getElem?_eq_getElem (by rw [hlen]; exact hj)⟩
    obtain ⟨y0, e0⟩ := g 0 (by omega)
    obtain ⟨y1, e1⟩ := g 1 (by omega)
    have g0 := (hg 0 _ rfl).trans e0
    have g1 := (hg 1 _ rfl).trans e1
    have k0 : Try.prog.cellsOf 2 = 1 := by kernel_rfl
    have k1 : Try.prog.cellsOf 3 = 1 := by kernel_rfl
    simp only [Value.cells] at g0 g1
    obtain ⟨n0, q0, _, w0⟩ := DataW.trod_int Try.underlying2 g0
    obtain ⟨n1, q1, _, w1⟩ := DataW.trod_int Try.underlying3 g1
    simp [k0, k1] at q0 q1
    subst q0 q1
    exact ⟨⟨n0, n1⟩, rfl⟩
end
end Go.Proofs.Ythbknahmmegcdaa
