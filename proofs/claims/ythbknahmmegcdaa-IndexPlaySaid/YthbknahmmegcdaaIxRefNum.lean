/- The reference's number and value. -/
import Derived.Test.YthbknahmmegcdaaIxGet
namespace Go.Proofs.Ythbknahmmegcdaa
open Go.RowKit Go.Shelf

set_option maxHeartbeats 1600000 in
theorem number_ok (x n : Nat) (hx : x < 18446744073709551616) (hn : n ≤ 8) (w : World) :
    Calls Try.prog 44 #[.int .u64 (x : Nat), .int .i64 (n : Nat)] w fun e w' => ∃ v', e = .returned v' ∧ BRow w.heap.size w none v' (numL x n) w' := by
  obtain ⟨i0, hi, hz0, hz1, hz2⟩ := info_parts Try.infoB
  have H0 : Hid (BRow w.heap.size w none (.slice none 0 0) [] w) := hide ⟨World.ownsRow_nil _ _ _ _, grown_refl _ _, .inl rfl⟩
  go_enter Try.func44, Try.ntmps44
  go_wp2
  go_loopw [0, 5, 6] (fun xv v i wr => ∃ k : Nat, k ≤ n ∧ i = .int .i64 k ∧ xv = .int .u64 (x / 256 ^ k : Nat) ∧ Hid (BRow w.heap.size w none v (numL x k) wr))
    (fun _ _ i _ => n - (intOf i).toNat)
  case atStart => exact ⟨0, Nat.zero_le _, rfl, by simp, H0⟩
  case round =>
    obtain ⟨k, hk, rfl, rfl, HB⟩ := hrel
    by_cases hlt : k < n
    · have hs := numL_succ x k
      have hq : x / 256 ^ (k + 1) = x / 256 ^ k / 256 := by rw [Nat.pow_succ, Nat.div_div_eq_div_mul]
      have HS := hide hs
      have HQ := hide hq
      have hln : (numL x k).length ≤ 10 := by rw [numL_length]; omega
      have hbs : w.heap.size ≤ wr.heap.size := HB.out.grow.size
      clear hs hq
      have hq64 : x / 256 ^ k < 18446744073709551616 := Nat.lt_of_le_of_lt (Nat.div_le_self _ _) hx
      generalize numL x k = m at *
      generalize x / 256 ^ k = q at *
      have hwq : IntKind.u64.wrap ((q : Int) / 256) = (q : Int) / 256 := by rw [IntKind.wrap_u64]; omega
      have hcv : IntKind.u8.wrap ((q : Int) % 256) = ((q % 256 : Nat) : Int) := by rw [IntKind.wrap_u8]; omega
      go_wp2_with (at_builtin; refine wpList_append_lies _ rfl _ _ 43 rfl w.heap.size 5 i0 (.int .u8 0) 1 1 Try.underlying43 hi hz0 hz1 hz2 rfl (by decide) _ _ _ rfl (HB.out.own.alloc _) ⟨wr.heap.size, 0, none⟩ 1 1 [.int .u8 (q % 256 : Nat)] rfl rfl (cell_one_new _ _ _) (one_cell _ rfl) (by omega) (by unfold maxLen; omega) (by omega) (by simp; omega) _ rfl ?_; intro g cap w1 hown hgrow hat hlt1; have HA := hide (HB.out.app hown hgrow hat); clear hown hgrow hat hlt1)
      go_roundw
      case rel => exact ⟨k + 1, by omega, by go_num, by rw [HQ.out]; simp, by rw [HS.out]; exact HA⟩
      case measure => simp [intOf]; omega
    · obtain rfl : k = n := by omega
      go_wp2
      go_ret
      exact ⟨_, rfl, HB.out⟩

set_option maxHeartbeats 1600000 in
theorem value_ok (n : Nat) (hn : n ≤ 8) (f : Nat → Nat) (o : Nat) (hf : ∀ j, f j < 256) (a : Option Addr) (cap : Nat) (w : World)
    (hs : CellsAt w a n (fun j => .int .u8 (f (o + j) : Nat))) :
    Calls Try.prog 38 #[.slice a n cap] w fun e w' => e = .returned (.int .u64 (valF f o n : Nat)) ∧ w' = w := by
  go_enter Try.func38, Try.ntmps38
  have hw1 : IntKind.i64.wrap ((n : Int) - 1) = (n : Int) - 1 := by rw [IntKind.wrap_i64]; omega
  go_wp2
  go_loopw [3, 4] (fun x i wr => ∃ k : Nat, k ≤ n ∧ i = .int .i64 ((k : Int) - 1) ∧ x = .int .u64 (valF f (o + k) (n - k) : Nat) ∧ wr = w) (fun _ i _ => ((intOf i) + 1).toNat)
  case atStart => exact ⟨n, Nat.le_refl _, rfl, by simp [valF], rfl⟩
  case round =>
    obtain ⟨k, hk, rfl, rfl, rfl⟩ := hrel
    by_cases hlt : 0 < k
    · obtain ⟨k0, rfl⟩ : ∃ k0, k = k0 + 1 := ⟨k - 1, by omega⟩
      obtain ⟨b, off, rfl, m0⟩ := hs k0 (by omega)
      have hst : valF f (o + k0) (n - k0) = f (o + k0) + 256 * valF f (o + (k0 + 1)) (n - (k0 + 1)) := by
        rw [show n - k0 = n - (k0 + 1) + 1 by omega]
        rfl
      have hfk := hf (o + k0)
      have hx : valF f (o + (k0 + 1)) (n - (k0 + 1)) < 72057594037927936 := by
        have h0 := valF_lt hf (n - (k0 + 1)) (o + (k0 + 1))
        have h1 : 256 ^ (n - (k0 + 1)) ≤ 256 ^ 7 := Nat.pow_le_pow_right (by omega) (by omega)
        have h2 : (256 : Nat) ^ 7 = 72057594037927936 := by decide
        omega
      have hr : ((256 : Int) * (valF f (o + (k0 + 1)) (n - (k0 + 1)) : Nat) + (f (o + k0) : Nat)) = ((valF f (o + k0) (n - k0) : Nat) : Int) := by rw [hst]; omega
      have HR := hide hr
      clear hst hr
      go_wp2
      go_roundw
      case rel => exact ⟨k0, by omega, rfl, by rw [← HR.out], trivial⟩
      case measure => simp [intOf]
    · obtain rfl : k = 0 := by omega
      go_wp2
      go_ret
      simp
end Go.Proofs.Ythbknahmmegcdaa
