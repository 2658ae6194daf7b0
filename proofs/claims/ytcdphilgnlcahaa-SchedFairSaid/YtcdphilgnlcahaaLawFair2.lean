/- The law SchedFair, at every input. -/
import Derived.Test.YtcdphilgnlcahaaLawFair
namespace Go.Proofs.Ytcdphilgnlcahaa
open Go.RowKit

set_option maxHeartbeats 800000 in
set_option maxRecDepth 100000 in
theorem fair_walk (ao : Option Addr) (n c : Nat) (A : Nat → Option Addr) (L C : Nat → Nat) (K : Nat → Int) (p : Nat → Nat → Bool) (t k : Int) (w : World) (hm : n ≤ 9223372036854775807)
    (ht : -9223372036854775808 ≤ t ∧ t ≤ 9223372036854775807) (hk : -9223372036854775808 ≤ k ∧ k ≤ 9223372036854775807) (h : TurnsAt w ao n A L C K p) :
    Calls Try.prog 5 #[.int .i64 t, .int .i64 k, .slice ao n c] w fun e w' => e = .returned (.bool true) ∧ Below w.heap.size w w' := by
  by_cases hv : 400 < n ∨ ∃ i, i < n ∧ 200 < L i
  · have HV := hide hv
    clear hv
    go_enter Try.func5, Try.ntmps5
    go_wp2_with fail
    refine (vast_yes ao n c A L C K p w hm h HV.out).mono ?_
    rintro e w' ⟨rfl, rfl⟩
    go_wp2_with fail
    refine (known_ok w).mono ?_
    rintro e w' ⟨rfl, hB⟩
    go_wp2
    go_ret
    exact ⟨rfl, hB⟩
  · have hn : n ≤ 400 := by omega
    have HL : Hid (∀ i, i < n → L i ≤ 200) := hide (fun i hi => by
      by_cases h2 : 200 < L i
      · exact absurd (.inr ⟨i, hi, h2⟩) hv
      · omega)
    clear hv
    by_cases h1 : 200 < t
    · by_cases h2 : t ≤ 65536
      · go_enter Try.func5, Try.ntmps5
        go_wp2_with fail
        refine (vast_no ao n c A L C K p w h hn HL.out).mono ?_
        rintro e w' ⟨rfl, rfl⟩
        go_wp2_with fail
        refine (known_ok w).mono ?_
        rintro e w' ⟨rfl, hB⟩
        go_wp2
        go_ret
        exact ⟨rfl, hB⟩
      · have hd1 : decide (t ≤ 65536) = false := by simp; omega
        go_enter Try.func5, Try.ntmps5
        go_wp2_with fail
        refine (vast_no ao n c A L C K p w h hn HL.out).mono ?_
        rintro e w' ⟨rfl, rfl⟩
        go_wp2_with fail
        refine (New_bad t k w (by omega)).mono ?_
        rintro e w' ⟨rfl, rfl⟩
        go_wp2_with fail
        refine (known_ok w).mono ?_
        rintro e w' ⟨rfl, hB⟩
        go_wp2
        go_ret
        exact ⟨rfl, hB⟩
    · by_cases h3 : t < 1
      · go_enter Try.func5, Try.ntmps5
        go_wp2_with fail
        refine (vast_no ao n c A L C K p w h hn HL.out).mono ?_
        rintro e w' ⟨rfl, rfl⟩
        go_wp2_with fail
        refine (New_bad t k w (by omega)).mono ?_
        rintro e w' ⟨rfl, rfl⟩
        go_wp2_with fail
        refine (known_ok w).mono ?_
        rintro e w' ⟨rfl, hB⟩
        go_wp2
        go_ret
        exact ⟨rfl, hB⟩
      · by_cases h4 : k < 0
        · go_enter Try.func5, Try.ntmps5
          go_wp2_with fail
          refine (vast_no ao n c A L C K p w h hn HL.out).mono ?_
          rintro e w' ⟨rfl, rfl⟩
          go_wp2_with fail
          refine (New_bad t k w (by omega)).mono ?_
          rintro e w' ⟨rfl, rfl⟩
          go_wp2_with fail
          refine (known_ok w).mono ?_
          rintro e w' ⟨rfl, hB⟩
          go_wp2
          go_ret
          exact ⟨rfl, hB⟩
        · obtain ⟨n0, rfl⟩ := Int.eq_ofNat_of_zero_le (show 0 ≤ t by omega)
          exact fair_ok ao n c A L C K p n0 k w h hn HL.out (by omega) (by omega) (by omega) hk.2
end Go.Proofs.Ytcdphilgnlcahaa
