/-
  No cell of these rows narrows 'for every input' (looked for: loops, veiled, ifaces, maps, wideKeys, modest, calm, conditions, laid).
  DERIVED. THE GIVEN ROWS OF THIS SEAT. 5 by the template 'for every input the law returns true; each argument reads behind the call as it read before'; 0 by the template 'total and deterministic' (their statements: YthbknahmmegcdaaTotals.lean).
  GIVEN WITH THE SEED: the statements are not yours to turn. If you find one false, say at which input.
  Laid BY PROGRAM, IN A SANDBOX (cutbox-rows.mjs): the forced cells as the released guide's own fill.sh prints them over the translation e43a6ef203b0b9c9… (all of the seat's roots in one cut). By AI agents, Wed Nov 11 2026. No macro, syntax, notation, axiom, sorry.
-/
import Derived.Test.YthbknahmmegcdaaChecked
import GoSem.Claim
import GoSem.ClaimJoined
import GoSem.ClaimMapViews
import Derived.JoinedTies
import Derived.KernelRfl
namespace Go.Proofs.Ythbknahmmegcdaa
/- THE CELL 'sum', in the pinned program and in every row, IS THE sha256 OF THE DUMP (.gsa) THAT YthbknahmmegcdaaProg.lean LOADS. Nothing in Lean hashes anything: it is a label: what it is worth is what the hold of that sum in a sandbox is worth. -/
noncomputable def Try.pinned : Pinned := { name := "ythbknahmmegcdaa", sum := "e43a6ef203b0b9c99dac1763f9efdbfd5684cef97c71e0af66b01f5430d41b22", checked := Try.checked }
namespace Rows
def none {H : Type} : Left H := { results := [], args := [] }

/-- 'millracelaw09.IndexCuts': WHATEVER THE INPUT: true; the input reads as it did. -/
def indexCutsSpec : ChangeSpec := { name := "indexCuts", fn := fun _ => fun
  | [d1, d2, d3] => { results := [.lit (.bool true)], args := [d1, d2, d3] }
  | _ => none }
def indexCutsRow : OpenClaim := { program := "ythbknahmmegcdaa", sum := "e43a6ef203b0b9c99dac1763f9efdbfd5684cef97c71e0af66b01f5430d41b22", func := "millrace/millracelaw09.IndexCuts", spec := "indexCuts", unfollowed := true, recurses := true, apart := false }
def IndexCutsSaid : Prop := indexCutsRow.holds Try.pinned (OpenSpec.ofChange indexCutsSpec)

/-- ITS FALSE NEIGHBOUR: 'it returns false'. Refute it at one input. -/
def indexCutsWrong : ChangeSpec := { name := "indexCuts", fn := fun _ => fun
  | [d1, d2, d3] => { results := [.lit (.bool false)], args := [d1, d2, d3] }
  | _ => none }
def IndexCutsWrongFalsely : Prop := indexCutsRow.holds Try.pinned (OpenSpec.ofChange indexCutsWrong)

/-- 'millracelaw09.IndexNear': WHATEVER THE INPUT: true; the input reads as it did. -/
def indexNearSpec : ChangeSpec := { name := "indexNear", fn := fun _ => fun
  | [d1, d2, d3] => { results := [.lit (.bool true)], args := [d1, d2, d3] }
  | _ => none }
def indexNearRow : OpenClaim := { program := "ythbknahmmegcdaa", sum := "e43a6ef203b0b9c99dac1763f9efdbfd5684cef97c71e0af66b01f5430d41b22", func := "millrace/millracelaw09.IndexNear", spec := "indexNear", unfollowed := true, recurses := true, apart := false }
def IndexNearSaid : Prop := indexNearRow.holds Try.pinned (OpenSpec.ofChange indexNearSpec)

/-- ITS FALSE NEIGHBOUR: 'it returns false'. Refute it at one input. -/
def indexNearWrong : ChangeSpec := { name := "indexNear", fn := fun _ => fun
  | [d1, d2, d3] => { results := [.lit (.bool false)], args := [d1, d2, d3] }
  | _ => none }
def IndexNearWrongFalsely : Prop := indexNearRow.holds Try.pinned (OpenSpec.ofChange indexNearWrong)

/-- 'millracelaw09.IndexRead': WHATEVER THE INPUT: true; the input reads as it did. -/
def indexReadSpec : ChangeSpec := { name := "indexRead", fn := fun _ => fun
  | [d] => { results := [.lit (.bool true)], args := [d] }
  | _ => none }
def indexReadRow : OpenClaim := { program := "ythbknahmmegcdaa", sum := "e43a6ef203b0b9c99dac1763f9efdbfd5684cef97c71e0af66b01f5430d41b22", func := "millrace/millracelaw09.IndexRead", spec := "indexRead", unfollowed := true, recurses := true, apart := false }
def IndexReadSaid : Prop := indexReadRow.holds Try.pinned (OpenSpec.ofChange indexReadSpec)

/-- ITS FALSE NEIGHBOUR: 'it returns false'. Refute it at one input. -/
def indexReadWrong : ChangeSpec := { name := "indexRead", fn := fun _ => fun
  | [d] => { results := [.lit (.bool false)], args := [d] }
  | _ => none }
def IndexReadWrongFalsely : Prop := indexReadRow.holds Try.pinned (OpenSpec.ofChange indexReadWrong)

/-- 'millracelaw09.IndexNil': WHATEVER THE INPUT: true; the input reads as it did. -/
def indexNilSpec : ChangeSpec := { name := "indexNil", fn := fun _ => fun
  | [d1, d2] => { results := [.lit (.bool true)], args := [d1, d2] }
  | _ => none }
def indexNilRow : OpenClaim := { program := "ythbknahmmegcdaa", sum := "e43a6ef203b0b9c99dac1763f9efdbfd5684cef97c71e0af66b01f5430d41b22", func := "millrace/millracelaw09.IndexNil", spec := "indexNil", unfollowed := true, recurses := true, apart := false }
def IndexNilSaid : Prop := indexNilRow.holds Try.pinned (OpenSpec.ofChange indexNilSpec)

/-- ITS FALSE NEIGHBOUR: 'it returns false'. Refute it at one input. -/
def indexNilWrong : ChangeSpec := { name := "indexNil", fn := fun _ => fun
  | [d1, d2] => { results := [.lit (.bool false)], args := [d1, d2] }
  | _ => none }
def IndexNilWrongFalsely : Prop := indexNilRow.holds Try.pinned (OpenSpec.ofChange indexNilWrong)

/-- 'millracelaw09.IndexPlay': WHATEVER THE INPUT: true; the input reads as it did. -/
def indexPlaySpec : ChangeSpec := { name := "indexPlay", fn := fun _ => fun
  | [d1, d2] => { results := [.lit (.bool true)], args := [d1, d2] }
  | _ => none }
def indexPlayRow : OpenClaim := { program := "ythbknahmmegcdaa", sum := "e43a6ef203b0b9c99dac1763f9efdbfd5684cef97c71e0af66b01f5430d41b22", func := "millrace/millracelaw09.IndexPlay", spec := "indexPlay", unfollowed := true, recurses := true, apart := false }
def IndexPlaySaid : Prop := indexPlayRow.holds Try.pinned (OpenSpec.ofChange indexPlaySpec)

/-- ITS FALSE NEIGHBOUR: 'it returns false'. Refute it at one input. -/
def indexPlayWrong : ChangeSpec := { name := "indexPlay", fn := fun _ => fun
  | [d1, d2] => { results := [.lit (.bool false)], args := [d1, d2] }
  | _ => none }
def IndexPlayWrongFalsely : Prop := indexPlayRow.holds Try.pinned (OpenSpec.ofChange indexPlayWrong)

/- THE SECOND FORM. 'bulk': how many values and letters a reading holds, each counted each time it is reached (what is shared counts as often as it is met; a slice's spare places count too). A statement '..UptoSaid' is the law's where the arguments, and the package variables that the reading takes, are together of bulk at most 1048576: NARROWER than '..Said'. Prove '..Said' where nothing that the law and all that it calls make is longer than what came in: it says more and counts as full. Else prove '..UptoSaid'. A law counts once. -/
mutual
def uptoBulk {H : Type} : DataW H → Nat
  | .lit (.string bytes) => bytes.length + 1
  | .lit _ => 1
  | .nil => 1
  | .ptr d => uptoBulk d + 1
  | .slice elems spare => uptoBulkAll elems + uptoBulkAll spare + 1
  | .agg parts => uptoBulkAll parts + 1
  | .iface _ d => uptoBulk d + 1
  | .map entries => uptoBulkEntries entries + 1
  | .held _ => 1
def uptoBulkAll {H : Type} : List (DataW H) → Nat
  | [] => 0
  | d :: r => uptoBulk d + uptoBulkAll r
def uptoBulkEntries {H : Type} : List (Lit × DataW H) → Nat
  | [] => 0
  | x :: r => uptoBulkEntry x + uptoBulkEntries r
def uptoBulkEntry {H : Type} : Lit × DataW H → Nat
  | (.string bytes, d) => bytes.length + uptoBulk d + 1
  | (_, d) => uptoBulk d + 1
 end
def uptoSmall : (H : Type) → List (DataW H) → Bool := fun _ ds => decide (uptoBulkAll ds ≤ 1048576)
def OpenSpec.upto (s : _root_.Go.ChangeSpec) : _root_.Go.OpenSpec := { _root_.Go.OpenSpec.ofChange s with cond := some uptoSmall }

/-- 'millracelaw09.IndexCuts', WHERE WHAT IT READS IS OF BULK AT MOST 1048576: true; the input reads as it did. -/
def indexCutsUptoRow : OpenClaim := { program := "ythbknahmmegcdaa", sum := "e43a6ef203b0b9c99dac1763f9efdbfd5684cef97c71e0af66b01f5430d41b22", func := "millrace/millracelaw09.IndexCuts", spec := "indexCuts", unfollowed := true, recurses := true, apart := false, narrowed := true }
def IndexCutsUptoSaid : Prop := indexCutsUptoRow.holds Try.pinned (OpenSpec.upto indexCutsSpec)

/-- 'millracelaw09.IndexNear', WHERE WHAT IT READS IS OF BULK AT MOST 1048576: true; the input reads as it did. -/
def indexNearUptoRow : OpenClaim := { program := "ythbknahmmegcdaa", sum := "e43a6ef203b0b9c99dac1763f9efdbfd5684cef97c71e0af66b01f5430d41b22", func := "millrace/millracelaw09.IndexNear", spec := "indexNear", unfollowed := true, recurses := true, apart := false, narrowed := true }
def IndexNearUptoSaid : Prop := indexNearUptoRow.holds Try.pinned (OpenSpec.upto indexNearSpec)

/-- 'millracelaw09.IndexRead', WHERE WHAT IT READS IS OF BULK AT MOST 1048576: true; the input reads as it did. -/
def indexReadUptoRow : OpenClaim := { program := "ythbknahmmegcdaa", sum := "e43a6ef203b0b9c99dac1763f9efdbfd5684cef97c71e0af66b01f5430d41b22", func := "millrace/millracelaw09.IndexRead", spec := "indexRead", unfollowed := true, recurses := true, apart := false, narrowed := true }
def IndexReadUptoSaid : Prop := indexReadUptoRow.holds Try.pinned (OpenSpec.upto indexReadSpec)

/-- 'millracelaw09.IndexNil', WHERE WHAT IT READS IS OF BULK AT MOST 1048576: true; the input reads as it did. -/
def indexNilUptoRow : OpenClaim := { program := "ythbknahmmegcdaa", sum := "e43a6ef203b0b9c99dac1763f9efdbfd5684cef97c71e0af66b01f5430d41b22", func := "millrace/millracelaw09.IndexNil", spec := "indexNil", unfollowed := true, recurses := true, apart := false, narrowed := true }
def IndexNilUptoSaid : Prop := indexNilUptoRow.holds Try.pinned (OpenSpec.upto indexNilSpec)

/-- 'millracelaw09.IndexPlay', WHERE WHAT IT READS IS OF BULK AT MOST 1048576: true; the input reads as it did. -/
def indexPlayUptoRow : OpenClaim := { program := "ythbknahmmegcdaa", sum := "e43a6ef203b0b9c99dac1763f9efdbfd5684cef97c71e0af66b01f5430d41b22", func := "millrace/millracelaw09.IndexPlay", spec := "indexPlay", unfollowed := true, recurses := true, apart := false, narrowed := true }
def IndexPlayUptoSaid : Prop := indexPlayUptoRow.holds Try.pinned (OpenSpec.upto indexPlaySpec)

end Rows
end Go.Proofs.Ythbknahmmegcdaa
