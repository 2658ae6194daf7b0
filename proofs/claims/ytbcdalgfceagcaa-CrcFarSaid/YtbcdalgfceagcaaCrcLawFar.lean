/- CrcFar: noughts' sums, and sums put together. -/
import Derived.Test.YtbcdalgfceagcaaCrcWorks
import Derived.Test.YtbcdalgfceagcaaCrcRefCarry
namespace Go.Proofs.Ytbcdalgfceagcaa
open Go.RowKit

theorem far_walk (a b : Nat) (ha : a < 4294967296) (hb : b < 4294967296) (n : Int) (hn : -9223372036854775808 ≤ n ∧ n ≤ 9223372036854775807) (w : World) :
    Calls Try.prog 4 #[.int .u32 a, .int .u32 b, .int .i64 n] w fun e w' => e = .returned (.bool true) ∧ Below w.heap.size w w' := by
  have H1 := hide (Zeros_ok n hn.2)
  have H2 := hide (refZeros_ok n hn.2)
  have H3 := hide (Combine_ok a b ha hb n hn.2)
  have H4 := hide (refCombine_ok a b ha hb n hn.2)
  generalize notN (stpN (8 * n.toNat) 4294967295) = x at *
  generalize stpN (8 * n.toNat) a ^^^ b = y at *
  go_enter Try.func4, Try.ntmps4
  go_wp2_with fail
  refine (H1.out _).mono ?_
  rintro e w1 ⟨rfl, hB1⟩
  have HB1 := hide hB1
  clear hB1
  go_wp2_with fail
  refine (H2.out _).mono ?_
  rintro e w2 ⟨rfl, hB2⟩
  have HB2 := hide (HB1.out.trans (hB2.mono HB1.out.size))
  clear hB2
  go_wp2_with fail
  refine (H3.out _).mono ?_
  rintro e w3 ⟨rfl, hB3⟩
  have HB3 := hide (HB2.out.trans (hB3.mono HB2.out.size))
  clear hB3
  go_wp2_with fail
  refine (H4.out _).mono ?_
  rintro e w4 ⟨rfl, hB4⟩
  have HB4 := hide (HB3.out.trans (hB4.mono HB3.out.size))
  clear hB4
  go_wp2_with fail
  refine (works_ok _).mono ?_
  rintro e w5 ⟨rfl, hB5⟩
  have HB5 := hide (HB4.out.trans (hB5.mono HB4.out.size))
  go_wp2
  go_ret
  exact ⟨rfl, HB5.out⟩
end Go.Proofs.Ytbcdalgfceagcaa
