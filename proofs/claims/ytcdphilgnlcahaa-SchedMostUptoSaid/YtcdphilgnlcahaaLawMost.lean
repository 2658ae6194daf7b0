/- Walk of the law SchedMost. -/
import Derived.Test.YtcdphilgnlcahaaRefMost
import Derived.Test.YtcdphilgnlcahaaKnown
namespace Go.Proofs.Ytcdphilgnlcahaa
open Go.RowKit

theorem eqq (a b : Int) (h : a = b) : (a == b) = true := by simp [h]

set_option maxHeartbeats 1600000 in
theorem most_walk (a b : Option Addr) (n m c c' : Nat) (l : Nat → Int) (A : Nat → Option Addr) (L C : Nat → Nat) (p : Nat → Nat → Bool) (w : World) (hn : n ≤ 9223372036854775807) (hm : m ≤ 9223372036854775807) (hL : 0 < m → L 0 ≤ 2000000)
    (hl : Ints w a n l) (hr : RowsAt w b m A L C p) :
    Calls Try.prog 6 #[.slice a n c, .slice b m c'] w fun e w' => e = .returned (.bool true) ∧ Below w.heap.size w w' := by
  by_cases h1 : 400 < n
  · go_enter Try.func6, Try.ntmps6
    go_wp2_with fail
    refine (known_ok w).mono ?_
    rintro e w' ⟨rfl, hB⟩
    go_wp2
    go_ret
    exact ⟨rfl, hB⟩
  · by_cases h2 : 400 < m
    · go_enter Try.func6, Try.ntmps6
      go_wp2_with fail
      refine (known_ok w).mono ?_
      rintro e w' ⟨rfl, hB⟩
      go_wp2
      go_ret
      exact ⟨rfl, hB⟩
    · by_cases hnm : n = m
      · subst hnm
        by_cases h0 : n = 0
        · subst h0
          go_enter Try.func6, Try.ntmps6
          go_wp2_with fail
          refine (Most_none a b c c' w).mono ?_
          rintro e w' ⟨rfl, rfl⟩
          go_wp2_with fail
          refine (refMost_none a b c c' w).mono ?_
          rintro e w' ⟨rfl, rfl⟩
          go_wp2_with fail
          refine (known_ok w).mono ?_
          rintro e w' ⟨rfl, hB⟩
          go_wp2
          go_ret
          exact ⟨rfl, hB⟩
        · have hL' := hL (by omega)
          by_cases hok : ∀ i, i < n → okAt l L p i
          · have Hok := hide hok
            clear hok hL
            have hb1 := eqq (mostAt l p (L 0) n) _ rfl
            go_enter Try.func6, Try.ntmps6
            go_wp2_with fail
            refine (Most_ok a b n c c' l A L C p w (by omega) (by omega) hL' hl hr).mono ?_
            rintro e w1 ⟨he, _, hB⟩
            obtain rfl := he Hok.out
            clear he
            go_wp2_with fail
            refine (refMost_ok a b n c c' l A L C p w1 (by omega) (by omega) hL' (hl.belowB hB (Nat.le_refl _)) (hr.below hB (Nat.le_refl _))).mono ?_
            rintro e w2 ⟨he, _, hB2⟩
            obtain rfl := he Hok.out
            clear he
            go_wp2_with fail
            refine (known_ok w2).mono ?_
            rintro e w3 ⟨rfl, hB3⟩
            go_wp2
            go_ret
            have hB2' := hB.trans (hB2.mono hB.size)
            exact ⟨rfl, hB2'.trans (hB3.mono hB2'.size)⟩
          · have Hok := hide hok
            clear hok hL
            go_enter Try.func6, Try.ntmps6
            go_wp2_with fail
            refine (Most_ok a b n c c' l A L C p w (by omega) (by omega) hL' hl hr).mono ?_
            rintro e w1 ⟨_, he, hB⟩
            obtain rfl := he Hok.out
            clear he
            go_wp2_with fail
            refine (refMost_ok a b n c c' l A L C p w1 (by omega) (by omega) hL' (hl.belowB hB (Nat.le_refl _)) (hr.below hB (Nat.le_refl _))).mono ?_
            rintro e w2 ⟨_, he, hB2⟩
            obtain rfl := he Hok.out
            clear he
            go_wp2_with fail
            refine (known_ok w2).mono ?_
            rintro e w3 ⟨rfl, hB3⟩
            go_wp2
            go_ret
            have hB2' := hB.trans (hB2.mono hB.size)
            exact ⟨rfl, hB2'.trans (hB3.mono hB2'.size)⟩
      · go_enter Try.func6, Try.ntmps6
        go_wp2_with fail
        refine (Most_bad a b n m c c' w hnm).mono ?_
        rintro e w' ⟨rfl, rfl⟩
        go_wp2_with fail
        refine (refMost_bad a b n m c c' w hnm).mono ?_
        rintro e w' ⟨rfl, rfl⟩
        go_wp2_with fail
        refine (known_ok w).mono ?_
        rintro e w' ⟨rfl, hB⟩
        go_wp2
        go_ret
        exact ⟨rfl, hB⟩
end Go.Proofs.Ytcdphilgnlcahaa
