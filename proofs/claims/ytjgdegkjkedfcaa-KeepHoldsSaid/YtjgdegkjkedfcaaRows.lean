/-
  No cell of these rows narrows 'for every input' (looked for: loops, veiled, ifaces, maps, wideKeys, modest, calm, conditions, laid).
  DERIVED. THE GIVEN ROWS OF THIS SEAT. 4 by the template 'for every input the law returns true; each argument reads behind the call as it read before'; 0 by the template 'total and deterministic' (their statements: YtjgdegkjkedfcaaTotals.lean).
  GIVEN WITH THE SEED: the statements are not yours to turn. If you find one false, say at which input.
  Laid BY PROGRAM, IN A SANDBOX (cutbox-rows.mjs): the forced cells as the released guide's own fill.sh prints them over the translation 9287d7de7badded6… (all of the seat's roots in one cut). By AI agents, Wed Nov 11 2026. No macro, syntax, notation, axiom, sorry.
-/
import Derived.Test.YtjgdegkjkedfcaaChecked
import GoSem.Claim
import GoSem.ClaimJoined
import GoSem.ClaimMapViews
import Derived.JoinedTies
import Derived.KernelRfl
namespace Go.Proofs.Ytjgdegkjkedfcaa
/- THE CELL 'sum', in the pinned program and in every row, IS THE sha256 OF THE DUMP (.gsa) THAT YtjgdegkjkedfcaaProg.lean LOADS. Nothing in Lean hashes anything: it is a label: what it is worth is what the hold of that sum in a sandbox is worth. -/
noncomputable def Try.pinned : Pinned := { name := "ytjgdegkjkedfcaa", sum := "9287d7de7badded6c27e18438ce26cb6991eb31cbe304308b2b815fc2445eb0e", checked := Try.checked }
namespace Rows
def none {H : Type} : Left H := { results := [], args := [] }

/-- 'millracelaw13.KeepLong': WHATEVER THE INPUT: true; the input reads as it did. -/
def keepLongSpec : ChangeSpec := { name := "keepLong", fn := fun _ => fun
  | [] => { results := [.lit (.bool true)], args := [] }
  | _ => none }
def keepLongRow : OpenClaim := { program := "ytjgdegkjkedfcaa", sum := "9287d7de7badded6c27e18438ce26cb6991eb31cbe304308b2b815fc2445eb0e", func := "millrace/millracelaw13.KeepLong", spec := "keepLong", apart := false }
def KeepLongSaid : Prop := keepLongRow.holds Try.pinned (OpenSpec.ofChange keepLongSpec)

/-- ITS FALSE NEIGHBOUR: 'it returns false'. Refute it at one input. -/
def keepLongWrong : ChangeSpec := { name := "keepLong", fn := fun _ => fun
  | [] => { results := [.lit (.bool false)], args := [] }
  | _ => none }
def KeepLongWrongFalsely : Prop := keepLongRow.holds Try.pinned (OpenSpec.ofChange keepLongWrong)

/-- 'millracelaw13.KeepWhy': WHATEVER THE INPUT: true; the input reads as it did. -/
def keepWhySpec : ChangeSpec := { name := "keepWhy", fn := fun _ => fun
  | [d] => { results := [.lit (.bool true)], args := [d] }
  | _ => none }
def keepWhyRow : OpenClaim := { program := "ytjgdegkjkedfcaa", sum := "9287d7de7badded6c27e18438ce26cb6991eb31cbe304308b2b815fc2445eb0e", func := "millrace/millracelaw13.KeepWhy", spec := "keepWhy", apart := false }
def KeepWhySaid : Prop := keepWhyRow.holds Try.pinned (OpenSpec.ofChange keepWhySpec)

/-- ITS FALSE NEIGHBOUR: 'it returns false'. Refute it at one input. -/
def keepWhyWrong : ChangeSpec := { name := "keepWhy", fn := fun _ => fun
  | [d] => { results := [.lit (.bool false)], args := [d] }
  | _ => none }
def KeepWhyWrongFalsely : Prop := keepWhyRow.holds Try.pinned (OpenSpec.ofChange keepWhyWrong)

/-- 'millracelaw13.KeepHolds': WHATEVER THE INPUT: true; the input reads as it did. -/
def keepHoldsSpec : ChangeSpec := { name := "keepHolds", fn := fun _ => fun
  | [d] => { results := [.lit (.bool true)], args := [d] }
  | _ => none }
def keepHoldsRow : OpenClaim := { program := "ytjgdegkjkedfcaa", sum := "9287d7de7badded6c27e18438ce26cb6991eb31cbe304308b2b815fc2445eb0e", func := "millrace/millracelaw13.KeepHolds", spec := "keepHolds", apart := false }
def KeepHoldsSaid : Prop := keepHoldsRow.holds Try.pinned (OpenSpec.ofChange keepHoldsSpec)

/-- ITS FALSE NEIGHBOUR: 'it returns false'. Refute it at one input. -/
def keepHoldsWrong : ChangeSpec := { name := "keepHolds", fn := fun _ => fun
  | [d] => { results := [.lit (.bool false)], args := [d] }
  | _ => none }
def KeepHoldsWrongFalsely : Prop := keepHoldsRow.holds Try.pinned (OpenSpec.ofChange keepHoldsWrong)

/-- 'millracelaw13.KeepTells': WHATEVER THE INPUT: true; the input reads as it did. -/
def keepTellsSpec : ChangeSpec := { name := "keepTells", fn := fun _ => fun
  | [d] => { results := [.lit (.bool true)], args := [d] }
  | _ => none }
def keepTellsRow : OpenClaim := { program := "ytjgdegkjkedfcaa", sum := "9287d7de7badded6c27e18438ce26cb6991eb31cbe304308b2b815fc2445eb0e", func := "millrace/millracelaw13.KeepTells", spec := "keepTells", apart := false }
def KeepTellsSaid : Prop := keepTellsRow.holds Try.pinned (OpenSpec.ofChange keepTellsSpec)

/-- ITS FALSE NEIGHBOUR: 'it returns false'. Refute it at one input. -/
def keepTellsWrong : ChangeSpec := { name := "keepTells", fn := fun _ => fun
  | [d] => { results := [.lit (.bool false)], args := [d] }
  | _ => none }
def KeepTellsWrongFalsely : Prop := keepTellsRow.holds Try.pinned (OpenSpec.ofChange keepTellsWrong)

/- THE SECOND FORM. 'bulk': how many values and letters a reading holds, each counted each time it is reached (what is shared counts as often as it is met; a slice's spare places count too). A statement '..UptoSaid' is the law's where the arguments, and the package variables that the reading takes, are together of bulk at most 1048576: NARROWER than '..Said'. Prove '..Said' where nothing that the law and all that it calls make is longer than what came in: it says more and counts as full. Else prove '..UptoSaid'. A law counts once. -/
mutual
def uptoBulk {H : Type} : DataW H → Nat
  | .lit (.string bytes) => bytes.length + 1
  | .lit _ => 1
  | .nil => 1
  | .ptr d => uptoBulk d + 1
  | .slice elems spare => uptoBulkAll elems + uptoBulkAll spare + 1
  | .agg parts => uptoBulkAll parts + 1
  | .iface _ d => uptoBulk d + 1
  | .map entries => uptoBulkEntries entries + 1
  | .held _ => 1
def uptoBulkAll {H : Type} : List (DataW H) → Nat
  | [] => 0
  | d :: r => uptoBulk d + uptoBulkAll r
def uptoBulkEntries {H : Type} : List (Lit × DataW H) → Nat
  | [] => 0
  | x :: r => uptoBulkEntry x + uptoBulkEntries r
def uptoBulkEntry {H : Type} : Lit × DataW H → Nat
  | (.string bytes, d) => bytes.length + uptoBulk d + 1
  | (_, d) => uptoBulk d + 1
 end
def uptoSmall : (H : Type) → List (DataW H) → Bool := fun _ ds => decide (uptoBulkAll ds ≤ 1048576)
def OpenSpec.upto (s : _root_.Go.ChangeSpec) : _root_.Go.OpenSpec := { _root_.Go.OpenSpec.ofChange s with cond := some uptoSmall }

/-- 'millracelaw13.KeepLong', WHERE WHAT IT READS IS OF BULK AT MOST 1048576: true; the input reads as it did. -/
def keepLongUptoRow : OpenClaim := { program := "ytjgdegkjkedfcaa", sum := "9287d7de7badded6c27e18438ce26cb6991eb31cbe304308b2b815fc2445eb0e", func := "millrace/millracelaw13.KeepLong", spec := "keepLong", apart := false, narrowed := true }
def KeepLongUptoSaid : Prop := keepLongUptoRow.holds Try.pinned (OpenSpec.upto keepLongSpec)

/-- 'millracelaw13.KeepWhy', WHERE WHAT IT READS IS OF BULK AT MOST 1048576: true; the input reads as it did. -/
def keepWhyUptoRow : OpenClaim := { program := "ytjgdegkjkedfcaa", sum := "9287d7de7badded6c27e18438ce26cb6991eb31cbe304308b2b815fc2445eb0e", func := "millrace/millracelaw13.KeepWhy", spec := "keepWhy", apart := false, narrowed := true }
def KeepWhyUptoSaid : Prop := keepWhyUptoRow.holds Try.pinned (OpenSpec.upto keepWhySpec)

/-- 'millracelaw13.KeepHolds', WHERE WHAT IT READS IS OF BULK AT MOST 1048576: true; the input reads as it did. -/
def keepHoldsUptoRow : OpenClaim := { program := "ytjgdegkjkedfcaa", sum := "9287d7de7badded6c27e18438ce26cb6991eb31cbe304308b2b815fc2445eb0e", func := "millrace/millracelaw13.KeepHolds", spec := "keepHolds", apart := false, narrowed := true }
def KeepHoldsUptoSaid : Prop := keepHoldsUptoRow.holds Try.pinned (OpenSpec.upto keepHoldsSpec)

/-- 'millracelaw13.KeepTells', WHERE WHAT IT READS IS OF BULK AT MOST 1048576: true; the input reads as it did. -/
def keepTellsUptoRow : OpenClaim := { program := "ytjgdegkjkedfcaa", sum := "9287d7de7badded6c27e18438ce26cb6991eb31cbe304308b2b815fc2445eb0e", func := "millrace/millracelaw13.KeepTells", spec := "keepTells", apart := false, narrowed := true }
def KeepTellsUptoSaid : Prop := keepTellsUptoRow.holds Try.pinned (OpenSpec.upto keepTellsSpec)

end Rows
end Go.Proofs.Ytjgdegkjkedfcaa
