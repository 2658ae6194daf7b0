/- CrcParts: of all texts. -/
import Derived.Test.YtbcdalgfceagcaaCrcLawParts
namespace Go.Proofs.Ytbcdalgfceagcaa
open Go.RowKit

theorem parts_all (a1 a2 a3 : Option Addr) (c1 c2 c3 : Nat) (l1 l2 l3 : List Nat) (w : World)
    (k1 : l1.length ≤ c1) (k2 : l2.length ≤ c2) (k3 : l3.length ≤ c3) (z1 : a1 = none → l1.length = 0 ∧ c1 = 0) (z2 : a2 = none → l2.length = 0 ∧ c2 = 0) (z3 : a3 = none → l3.length = 0 ∧ c3 = 0)
    (t1 : ∀ c ∈ l1, c < 256) (t2 : ∀ c ∈ l2, c < 256) (t3 : ∀ c ∈ l3, c < 256) (b1 : BytesAt w a1 l1) (b2 : BytesAt w a2 l2) (b3 : BytesAt w a3 l3) :
    Calls Try.prog 6 #[.slice a1 l1.length c1, .slice a2 l2.length c2, .slice a3 l3.length c3] w fun e w' => e = .returned (.bool true) ∧ Below w.heap.size w w' := by
  by_cases h : 20000 < l1.length ∨ 20000 < l2.length ∨ 20000 < l3.length
  · exact parts_big a1 a2 a3 c1 c2 c3 _ _ _ h w
  · exact parts_walk a1 a2 a3 c1 c2 c3 l1 l2 l3 w (by omega) (by omega) (by omega) k1 k2 k3 z1 z2 z3 t1 t2 t3 b1 b2 b3
end Go.Proofs.Ytbcdalgfceagcaa
