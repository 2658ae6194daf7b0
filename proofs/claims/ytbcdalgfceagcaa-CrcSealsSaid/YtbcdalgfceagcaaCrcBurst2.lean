/- The walk of crc.Burst. -/
import Derived.Test.YtbcdalgfceagcaaCrcBurst
namespace Go.Proofs.Ytbcdalgfceagcaa
open Go.RowKit

theorem df_xor (a b : List Nat) (i k : Nat) (hk : k < 8) : dfB a b (8 * i + k) = ((a.getD i 0 ^^^ b.getD i 0) / 2 ^ k % 2 == 1) := by
  unfold dfB
  rw [show (8 * i + k) / 8 = i by omega, show (8 * i + k) % 8 = k by omega]
  generalize a.getD i 0 = x
  generalize b.getD i 0 = y
  have h := Nat.testBit_xor (x := x) (y := y) (i := k)
  simp only [Nat.testBit_eq_decide_div_mod_eq] at h
  have h2 : ∀ z : Nat, (z / 2 ^ k % 2 == 1) = decide (z / 2 ^ k % 2 = 1) := fun z => rfl
  rw [h2, h2, h2, h]

set_option maxHeartbeats 3200000 in
theorem burst_ok (x1 x2 : Option Addr) (c1 c2 : Nat) (a b : List Nat) (w : World) (hn : a.length ≤ 1000000) (hl : b.length = a.length) (ta : ∀ c ∈ a, c < 256) (tb : ∀ c ∈ b, c < 256) (ha : BytesAt w x1 a) (hb : BytesAt w x2 b) :
    Calls Try.prog 27 #[.slice x1 a.length c1, .slice x2 a.length c2] w fun e w' => e = .returned (.tuple #[.int .i64 ((bst a b (8 * a.length)).1 : Nat), .int .i64 ((bst a b (8 * a.length)).2.1 : Nat), .bool (bst a b (8 * a.length)).2.2]) ∧ Below w.heap.size w w' := by
  have HY := hide (fun n => bst_yes (a := a) (b := b) (n := n))
  have HN := hide (fun n => bst_no (a := a) (b := b) (n := n))
  have HD := hide (df_xor a b)
  have H0 : Hid (bst a b (8 * 0) = (0, 0, false)) := hide rfl
  have TA := hide (getD_lt a ta)
  have TB := hide (getD_lt b tb)
  have HA := hide ha
  have HB := hide hb
  obtain ⟨E, hE⟩ : ∃ E, E = bst a b (8 * a.length) := ⟨_, rfl⟩
  rw [← hE]
  have HE := hide hE
  have HL := hide hl
  clear ha hb hl hE ta tb
  generalize hnn : a.length = n at *
  have HNN := hide hnn
  clear hnn
  have hne : ((n : Int) != (n : Int)) = false := by simp
  go_enter Try.func27, Try.ntmps27
  go_wp2
  go_loopw [4, 5, 6, 7, 8, 16, 19] (fun f l y v7 v8 i v19 wr => ∃ k : Nat, k ≤ n ∧ i = .int .i64 k ∧ f = .int .i64 ((bst a b (8 * k)).1 : Nat) ∧ l = .int .i64 ((bst a b (8 * k)).2.1 : Nat) ∧ y = .bool (bst a b (8 * k)).2.2 ∧ Hid (Below w.heap.size w wr)) (fun _ _ _ _ _ i _ _ => n - (intOf i).toNat)
  case atStart => exact ⟨0, by omega, rfl, by rw [H0.out]; rfl, by rw [H0.out]; rfl, by rw [H0.out], hide (Below.refl _ _)⟩
  case round =>
    obtain ⟨i, hi, rfl, rfl, rfl, rfl, HW⟩ := hrel
    obtain ⟨wo, rfl⟩ : ∃ wo : World, wo = wr := ⟨_, rfl⟩
    by_cases hlt : i < n
    · have ux := TA.out i
      have uy := TB.out i
      go_wp2
      go_loopw [4, 5, 6, 8, 19] (fun f l y v8 j wr => ∃ k : Nat, k ≤ 8 ∧ j = .int .i64 k ∧ f = .int .i64 ((bst a b (8 * i + k)).1 : Nat) ∧ l = .int .i64 ((bst a b (8 * i + k)).2.1 : Nat) ∧ y = .bool (bst a b (8 * i + k)).2.2 ∧ Hid (Below w.heap.size w wr)) (fun _ _ _ _ j _ => 8 - (intOf j).toNat)
      case atStart => exact ⟨0, by omega, rfl, rfl, rfl, rfl, HW⟩
      case round =>
        obtain ⟨k, hk, rfl, rfl, rfl, rfl, HWB⟩ := hrel
        by_cases hk8 : k < 8
        · have hd := HD.out i k hk8
          have hy := HY.out (8 * i + k)
          have hno := HN.out (8 * i + k)
          obtain ⟨b1, o1, rfl, hc1⟩ := (HA.out.below HWB.out (Nat.le_refl _)) i (by rw [HNN.out]; exact hlt)
          obtain ⟨b2, o2, rfl, hc2⟩ := (HB.out.below HWB.out (Nat.le_refl _)) i (by rw [HL.out]; exact hlt)
          dsimp only at hc1 hc2
          generalize a.getD i 0 = x at *
          generalize b.getD i 0 = y at *
          have e1 := u8_xor_nat x y ux uy
          have hz : x ^^^ y < 256 := Nat.xor_lt_two_pow (n := 8) ux uy
          generalize x ^^^ y = z at *
          have e2 : bits .and .u8 ((z : Int) / 2 ^ k) 1 = ((z / 2 ^ k % 2 : Nat) : Int) := by
            have e0 : ((z : Int) / 2 ^ k) = ((z / 2 ^ k : Nat) : Int) := by push_cast; rfl
            have hz2 : z / 2 ^ k < 256 := Nat.lt_of_le_of_lt (Nat.div_le_self _ _) hz
            rw [e0]
            have := u8_and_nat (z / 2 ^ k) 1 hz2 (by omega)
            rw [Nat.and_one_is_mod] at this
            exact this
          have ht : z / 2 ^ k % 2 < 2 := Nat.mod_lt _ (by omega)
          generalize z / 2 ^ k % 2 = t at *
          generalize bst a b (8 * i + k) = st at *
          obtain ⟨s1, s2, s3⟩ := st
          dsimp only at hy
          have i1 : (i : Int) < (n : Int) := by omega
          by_cases ht1 : t = 1
          · subst ht1
            have HS := hide (hy (by rw [hd]; rfl))
            clear hd hy hno
            go_wp2_with fail
            go_quiet (fail)
            have HWQ := hide (belowDrewN HWB.out nq)
            cases s3 <;> (
              go_wp2
              go_roundw
              case rel => exact ⟨k + 1, by omega, by go_num, by rw [← Nat.add_assoc, HS.out] <;> go_num, by rw [← Nat.add_assoc, HS.out] <;> go_num, by rw [← Nat.add_assoc, HS.out], HWQ⟩
              case measure => simp [intOf] <;> omega)
          · obtain rfl : t = 0 := by omega
            have HS := hide (hno (by rw [hd]; rfl))
            clear hd hy hno ht1
            go_wp2_with fail
            go_quiet (fail)
            have HWQ := hide (belowDrewN HWB.out nq)
            go_wp2
            go_roundw
            case rel => exact ⟨k + 1, by omega, by go_num, by rw [← Nat.add_assoc, HS.out], by rw [← Nat.add_assoc, HS.out], by rw [← Nat.add_assoc, HS.out], HWQ⟩
            case measure => simp [intOf] <;> omega
        · obtain rfl : k = 8 := by omega
          go_wp2
          go_roundw
          case rel => exact ⟨i + 1, by omega, by go_num, by rw [show 8 * (i + 1) = 8 * i + 8 by omega], by rw [show 8 * (i + 1) = 8 * i + 8 by omega], by rw [show 8 * (i + 1) = 8 * i + 8 by omega], HWB⟩
          case measure => simp [intOf] <;> omega
    · obtain rfl : i = n := by omega
      go_wp2
      go_ret3
      exact ⟨by rw [HE.out] <;> rfl, HW.out⟩
end Go.Proofs.Ytbcdalgfceagcaa
