/- Walk of the laws' vast(): more than is done here. -/
import Derived.Test.YtcdphilgnlcahaaTurnsOf
namespace Go.Proofs.Ytcdphilgnlcahaa
open Go.RowKit

theorem TurnsAt.belowB {w w' : World} {a : Option Addr} {n B : Nat} {A : Nat → Option Addr} {L C : Nat → Nat} {K : Nat → Int} {p : Nat → Nat → Bool} (h : TurnsAt w a n A L C K p) (hb : Below B w w') (hB : w.heap.size ≤ B) : TurnsAt w' a n A L C K p :=
  h.below (hb.mono hB)

set_option maxHeartbeats 400000 in
theorem vast_yes (a : Option Addr) (n c : Nat) (A : Nat → Option Addr) (L C : Nat → Nat) (K : Nat → Int) (p : Nat → Nat → Bool) (w : World) (hm : n ≤ 9223372036854775807) (h : TurnsAt w a n A L C K p) (hv : 400 < n ∨ ∃ i, i < n ∧ 200 < L i) :
    Calls Try.prog 13 #[.slice a n c] w fun e w' => e = .returned (.bool true) ∧ w = w' := by
  by_cases h1 : 400 < n
  · go_enter Try.func13, Try.ntmps13
    go_wp2
    go_ret
    exact ⟨rfl, rfl⟩
  · have hv' : Hid (∃ i, i < n ∧ 200 < L i) := hide (hv.resolve_left h1)
    clear hv
    go_enter Try.func13, Try.ntmps13
    go_wp2
    go_loop [3] (fun i => ∃ k : Nat, k ≤ n ∧ i = .int .i64 k ∧ Hid (∀ j, j < k → L j ≤ 200)) (fun i => n - (intOf i).toNat)
    case atStart => exact ⟨0, Nat.zero_le _, rfl, hide (fun j hj => by omega)⟩
    case round =>
      obtain ⟨k, hk, rfl, hq⟩ := hrel
      by_cases hlt : k < n
      · obtain ⟨b, off, rfl, hc1, _⟩ := h.at_ k hlt
        have hsz := (h.size k hlt).1
        by_cases h2 : 200 < L k
        · go_wp2
          go_ret
          exact ⟨rfl, rfl⟩
        · go_wp2
          go_round
          case rel => exact ⟨k + 1, by omega, by go_num, hide (fun j hj => by
            by_cases e : j = k
            · subst e; omega
            · exact hq.out j (by omega))⟩
          case measure => simp [intOf]; omega
      · obtain ⟨i, h3, h4⟩ := hv'.out
        have := hq.out i (by omega)
        omega

set_option maxHeartbeats 400000 in
theorem vast_no (a : Option Addr) (n c : Nat) (A : Nat → Option Addr) (L C : Nat → Nat) (K : Nat → Int) (p : Nat → Nat → Bool) (w : World) (h : TurnsAt w a n A L C K p) (h1 : n ≤ 400) (hv : ∀ i, i < n → L i ≤ 200) :
    Calls Try.prog 13 #[.slice a n c] w fun e w' => e = .returned (.bool false) ∧ w = w' := by
  have HV := hide hv
  clear hv
  go_enter Try.func13, Try.ntmps13
  go_wp2
  go_loop [3] (fun i => ∃ k : Nat, k ≤ n ∧ i = .int .i64 k) (fun i => n - (intOf i).toNat)
  case atStart => exact ⟨0, Nat.zero_le _, rfl⟩
  case round =>
    obtain ⟨k, hk, rfl⟩ := hrel
    by_cases hlt : k < n
    · obtain ⟨b, off, rfl, hc1, _⟩ := h.at_ k hlt
      have h2 := HV.out k hlt
      go_wp2
      go_round
      case rel => exact ⟨k + 1, by omega, by go_num⟩
      case measure => simp [intOf]; omega
    · go_wp2
      go_ret
      exact ⟨rfl, rfl⟩
end Go.Proofs.Ytcdphilgnlcahaa
