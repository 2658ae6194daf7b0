/- What the readings of the arguments give: a case: a rule, times, a place, pieces. -/
import Derived.Test.YtjgdegkjkedfcaaRows
import Derived.Test.YtjgdegkjkedfcaaKeepWorks
import Derived.ProofKit
import Derived.OpenShut
import Derived.ChangeOld
import Derived.Below
import Derived.Deep.Slices
import Derived.Deep.Fields
import Derived.ChangeArms
import Derived.ChangeSame
import Derived.Lib.SmallJoins
namespace Go.Proofs.Ytjgdegkjkedfcaa
open Go.Joins Go.ChangeShapes Go.WideShapes Go.ChangeAt Go.RowKit Go.Deep

theorem Try.own : ownKnob Try.prog.godebug = none := by kernel_rfl
theorem Try.laidOut : laidOutB Try.prog = true := by kernel_rfl

section
variable {H : Type} {enc : TypeId × Value → H} {w : World}

theorem addr_plain {w : World} {a : Addr} {u : Value} (h : w.cell? a = some u) : a.spot = none := by
  have := World.cell?_spot h; simpa using this

theorem i64_wf {n : Int} (h : (Lit.int .i64 n).wf = true) : -9223372036854775808 ≤ n ∧ n ≤ 9223372036854775807 := by
  simpa [Lit.wf, IntKind.min, IntKind.max, IntKind.signed, IntKind.bits] using h

end
end Go.Proofs.Ytjgdegkjkedfcaa
