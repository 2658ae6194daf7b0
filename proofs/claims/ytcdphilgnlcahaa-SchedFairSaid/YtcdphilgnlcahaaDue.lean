/- Walk of (*Fair).due: the task that must go next, if one must. -/
import Derived.Test.YtcdphilgnlcahaaFair
namespace Go.Proofs.Ytcdphilgnlcahaa
open Go.RowKit

/-- the one that was passed over most often of the first j tasks, among those that can go on and were passed over k times, or -1 -/
def dueAt (k : Int) (q : Nat → Int) (p : Nat → Bool) : Nat → Int
  | 0 => -1
  | j + 1 => if p j = true ∧ k ≤ q j ∧ (dueAt k q p j < 0 ∨ q (dueAt k q p j).toNat < q j) then (j : Int) else dueAt k q p j

theorem dueAt_or (k : Int) (q : Nat → Int) (p : Nat → Bool) (j : Nat) : dueAt k q p j = -1 ∨ ∃ m : Nat, m < j ∧ dueAt k q p j = (m : Int) := by
  induction j with
  | zero => exact .inl rfl
  | succ j ih =>
    unfold dueAt
    split
    · exact .inr ⟨j, by omega, rfl⟩
    · rcases ih with h | ⟨m, hm, h⟩
      · exact .inl h
      · exact .inr ⟨m, by omega, h⟩

set_option maxHeartbeats 800000 in
theorem due_ok (fb gb cap n : Nat) (k : Int) (q : Nat → Int) (a : Option Addr) (c : Nat) (p : Nat → Bool) (w : World) (h2 : n ≤ 100000)
    (h : FairAt w fb gb cap k n q) (hb : Bools w a n p) :
    Calls Try.prog 26 #[.pointer (some ⟨fb, 0, none⟩), .slice a n c] w fun e w' => e = .returned (.tuple #[.int .i64 (dueAt k q p n), .bool (decide (0 ≤ dueAt k q p n))]) ∧ w = w' := by
  have hc0 := h.cellk
  have hc1 := h.cells
  go_enter Try.func26, Try.ntmps26
  go_wp2
  go_loop [6, 14] (fun t i => ∃ j : Nat, j ≤ n ∧ i = .int .i64 j ∧ t = .int .i64 (dueAt k q p j)) (fun _ i => n - (intOf i).toNat)
  case atStart => exact ⟨0, Nat.zero_le _, rfl, rfl⟩
  case round =>
    obtain ⟨j, hj, rfl, rfl⟩ := hrel
    by_cases hlt : j < n
    · have hq := h.cell j hlt
      obtain ⟨b, off, rfl, hcx⟩ := hb j hlt
      have hor := dueAt_or k q p j
      have hs : Hid (dueAt k q p (j + 1) = if p j = true ∧ k ≤ q j ∧ (dueAt k q p j < 0 ∨ q (dueAt k q p j).toNat < q j) then (j : Int) else dueAt k q p j) := hide rfl
      generalize ha : dueAt k q p j = t at *
      have Ha := hide ha
      clear ha hb
      cases hp : p j with
      | false =>
        rw [hp] at hcx
        have Hp := hide hp
        have Hor := hide hor
        clear hp hor
        go_wp2
        go_round
        case rel => exact ⟨j + 1, by omega, by go_num, by rw [hs.out, Hp.out]; simp⟩
        case measure => simp [intOf]; omega
      | true =>
        rw [hp] at hcx
        have Hp := hide hp
        clear hp
        by_cases hk : k ≤ q j
        · rcases hor with rfl | ⟨m, hm, rfl⟩
          · go_wp2
            go_round
            case rel => exact ⟨j + 1, by omega, by go_num, by rw [hs.out, Hp.out]; simp [hk]⟩
            case measure => simp [intOf]; omega
          · have hqm := h.cell m (by omega)
            by_cases hqq : q m < q j
            · go_wp2
              go_round
              case rel => exact ⟨j + 1, by omega, by go_num, by rw [hs.out, Hp.out]; simp [hk, hqq]⟩
              case measure => simp [intOf]; omega
            · go_wp2
              go_round
              case rel => exact ⟨j + 1, by omega, by go_num, by rw [hs.out, Hp.out, if_neg (by simp [hqq])]⟩
              case measure => simp [intOf]; omega
        · have Hor := hide hor
          clear hor
          go_wp2
          go_round
          case rel => exact ⟨j + 1, by omega, by go_num, by rw [hs.out, if_neg (by omega)]⟩
          case measure => simp [intOf]; omega
    · have hjn : j = n := by omega
      subst hjn
      go_wp2
      go_ret2
      exact ⟨rfl, rfl⟩
end Go.Proofs.Ytcdphilgnlcahaa
