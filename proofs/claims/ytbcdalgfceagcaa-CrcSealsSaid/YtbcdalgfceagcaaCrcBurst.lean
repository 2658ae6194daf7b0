/- Walks of crc.Burst and of the reference's bit and Burst. -/
import Derived.Test.YtbcdalgfceagcaaCrcRefSeal
import Derived.BigQuiet
import Derived.Laws.BitsAllLaws
namespace Go.Proofs.Ytbcdalgfceagcaa
open Go.RowKit

/-- does bit i differ? -/
def dfB (a b : List Nat) (i : Nat) : Bool := (a.getD (i / 8) 0 / 2 ^ (i % 8) % 2 == 1) != (b.getD (i / 8) 0 / 2 ^ (i % 8) % 2 == 1)
/-- first, last, any -/
def bstep (st : Nat × Nat × Bool) (i : Nat) (d : Bool) : Nat × Nat × Bool := if d then (if st.2.2 then st.1 else i, i, true) else st
def bst (a b : List Nat) : Nat → Nat × Nat × Bool
  | 0 => (0, 0, false)
  | n + 1 => bstep (bst a b n) n (dfB a b n)
theorem bst_yes {a b : List Nat} {n : Nat} (h : dfB a b n = true) : bst a b (n + 1) = (if (bst a b n).2.2 then (bst a b n).1 else n, n, true) := by
  show bstep _ _ _ = _
  unfold bstep
  rw [if_pos h]
theorem bst_no {a b : List Nat} {n : Nat} (h : dfB a b n = false) : bst a b (n + 1) = bst a b n := by
  show bstep _ _ _ = _
  unfold bstep
  rw [h]
  rfl
theorem bst_le (a b : List Nat) (n : Nat) : (bst a b n).1 ≤ n ∧ (bst a b n).2.1 ≤ n := by
  induction n with
  | zero => simp [bst]
  | succ n ih =>
    cases h : dfB a b n with
    | true => rw [bst_yes h]; dsimp only; split <;> omega
    | false => rw [bst_no h]; omega

theorem bit_eq (y r : Nat) : (((y : Int) / 2 ^ r).tmod 2 == 1) = (y / 2 ^ r % 2 == 1) := by
  have e : ((y : Int) / 2 ^ r) = ((y / 2 ^ r : Nat) : Int) := by push_cast; rfl
  rw [e]
  generalize y / 2 ^ r = z
  rw [Int.tmod_eq_emod_of_nonneg (Int.natCast_nonneg z)]
  rw [Bool.eq_iff_iff, beq_iff_eq, beq_iff_eq]
  omega
theorem bit_ok (x : Option Addr) (c : Nat) (l : List Nat) (i : Nat) (w : World) (hn : l.length ≤ 1000000) (hi : i < 8 * l.length) (hb : BytesAt w x l) :
    Calls Try.prog 43 #[.slice x l.length c, .int .i64 i] w fun e w' => e = .returned (.bool (l.getD (i / 8) 0 / 2 ^ (i % 8) % 2 == 1)) ∧ w = w' := by
  obtain ⟨b, off, rfl, hc⟩ := hb (i / 8) (by omega)
  dsimp only at hc
  have h1 : (i : Int) / 8 < (l.length : Int) := by omega
  generalize l.getD (i / 8) 0 = y at *
  generalize l.length = n at *
  have h2 : i / 8 < n := by omega
  go_enter Try.func43, Try.ntmps43
  go_wp2
  go_ret
  exact ⟨by rw [← bit_eq] <;> rfl, rfl⟩

set_option maxHeartbeats 1600000 in
theorem refBurst_ok (x1 x2 : Option Addr) (c1 c2 : Nat) (a b : List Nat) (w : World) (hn : a.length ≤ 1000000) (hl : b.length = a.length) (ha : BytesAt w x1 a) (hb : BytesAt w x2 b) :
    Calls Try.prog 28 #[.slice x1 a.length c1, .slice x2 a.length c2] w fun e w' => e = .returned (.tuple #[.int .i64 ((bst a b (8 * a.length)).1 : Nat), .int .i64 ((bst a b (8 * a.length)).2.1 : Nat), .bool (bst a b (8 * a.length)).2.2]) ∧ w = w' := by
  have KA := hide (fun (i : Nat) (hi : i < 8 * a.length) => bit_ok x1 c1 a i w hn hi ha)
  have KB := hide (fun (i : Nat) (hi : i < 8 * a.length) => bit_ok x2 c2 b i w (by rw [hl]; exact hn) (by rw [hl]; exact hi) hb)
  rw [hl] at KB
  have HY := hide (fun n => bst_yes (a := a) (b := b) (n := n))
  have HN := hide (fun n => bst_no (a := a) (b := b) (n := n))
  have HD : Hid (∀ i, dfB a b i = ((a.getD (i / 8) 0 / 2 ^ (i % 8) % 2 == 1) != (b.getD (i / 8) 0 / 2 ^ (i % 8) % 2 == 1))) := hide (fun i => rfl)
  have H0 : Hid (bst a b 0 = (0, 0, false)) := hide rfl
  have HLE := hide (bst_le a b)
  obtain ⟨E, hE⟩ : ∃ E, E = bst a b (8 * a.length) := ⟨_, rfl⟩
  rw [← hE]
  have HE := hide hE
  clear ha hb hl hE
  generalize a.length = n at *
  have hm8 : IntKind.i64.wrap (8 * (n : Int)) = 8 * (n : Int) := by rw [IntKind.wrap_i64]; omega
  have hne : ((n : Int) != (n : Int)) = false := by simp
  go_enter Try.func28, Try.ntmps28
  go_wp2
  go_loop [7, 8, 9, 10] (fun f l y i => ∃ k : Nat, k ≤ 8 * n ∧ i = .int .i64 k ∧ f = .int .i64 ((bst a b k).1 : Nat) ∧ l = .int .i64 ((bst a b k).2.1 : Nat) ∧ y = .bool (bst a b k).2.2) (fun _ _ _ i => 8 * n - (intOf i).toNat)
  case atStart => exact ⟨0, by omega, rfl, by rw [H0.out]; rfl, by rw [H0.out]; rfl, by rw [H0.out]⟩
  case round =>
    obtain ⟨k, hk, rfl, rfl, rfl, rfl⟩ := hrel
    by_cases hlt : k < 8 * n
    · have K1 := KA.out k hlt
      have K2 := KB.out k hlt
      have hd := HD.out k
      have hy := HY.out k
      have hno := HN.out k
      generalize (a.getD (k / 8) 0 / 2 ^ (k % 8) % 2 == 1) = q1 at *
      generalize (b.getD (k / 8) 0 / 2 ^ (k % 8) % 2 == 1) = q2 at *
      have HK1 := hide K1
      have HK2 := hide K2
      generalize bst a b k = st at *
      obtain ⟨s1, s2, s3⟩ := st
      dsimp only at hy
      have e1 : (k : Int) < 8 * (n : Int) := by omega
      clear K1 K2
      by_cases hq : q1 = q2
      · subst hq
        have HS := hide (hno (by rw [hd]; cases q1 <;> rfl))
        clear hd hy hno
        cases q1 <;> (
          go_wp2_with fail
          refine HK1.out.mono ?_
          rintro e w' ⟨rfl, rfl⟩
          go_wp2_with fail
          refine HK2.out.mono ?_
          rintro e w' ⟨rfl, rfl⟩
          go_wp2
          go_round
          case rel => exact ⟨k + 1, by omega, by go_num, by rw [HS.out], by rw [HS.out], by rw [HS.out]⟩
          case measure => simp [intOf] <;> omega)
      · have HS := hide (hy (by rw [hd]; revert hq; cases q1 <;> cases q2 <;> simp))
        clear hd hy hno
        cases q1 <;> cases q2 <;> first
          | exact absurd rfl hq
          | (cases s3 <;> (
              go_wp2_with fail
              refine HK1.out.mono ?_
              rintro e w' ⟨rfl, rfl⟩
              go_wp2_with fail
              refine HK2.out.mono ?_
              rintro e w' ⟨rfl, rfl⟩
              go_wp2
              go_round
              case rel => exact ⟨k + 1, by omega, by go_num, by rw [HS.out] <;> rfl, by rw [HS.out] <;> rfl, by rw [HS.out]⟩
              case measure => simp [intOf] <;> omega))
    · obtain rfl : k = 8 * n := by omega
      have e1 : ¬ (((8 * n : Nat) : Int) < 8 * (n : Int)) := by omega
      go_wp2
      go_ret3
      exact ⟨by rw [HE.out] <;> rfl, rfl⟩
theorem refBurst_ne (x1 x2 : Option Addr) (n1 n2 c1 c2 : Nat) (w : World) (hl : n1 ≠ n2) :
    Calls Try.prog 28 #[.slice x1 n1 c1, .slice x2 n2 c2] w fun e w' => e = .returned (.tuple #[.int .i64 0, .int .i64 0, .bool false]) ∧ w = w' := by
  have hne : ((n1 : Int) != (n2 : Int)) = true := by rw [bne_iff_ne]; omega
  clear hl
  go_enter Try.func28, Try.ntmps28
  go_wp2
  go_ret3
  exact ⟨rfl, rfl⟩
theorem burst_ne (x1 x2 : Option Addr) (n1 n2 c1 c2 : Nat) (w : World) (hl : n1 ≠ n2) :
    Calls Try.prog 27 #[.slice x1 n1 c1, .slice x2 n2 c2] w fun e w' => e = .returned (.tuple #[.int .i64 0, .int .i64 0, .bool false]) ∧ w = w' := by
  have hne : ((n1 : Int) != (n2 : Int)) = true := by rw [bne_iff_ne]; omega
  clear hl
  go_enter Try.func27, Try.ntmps27
  go_wp2
  go_ret3
  exact ⟨rfl, rfl⟩
end Go.Proofs.Ytbcdalgfceagcaa
