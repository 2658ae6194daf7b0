/- The plain law of bursts: bits within 32 that are turned make another sum. -/
import Derived.Test.YtbcdalgfceagcaaCrcWorks
namespace Go.Proofs.Ytbcdalgfceagcaa

theorem mul_xor (k a b : Nat) : 2 ^ k * (a ^^^ b) = (2 ^ k * a) ^^^ (2 ^ k * b) := by
  apply Nat.eq_of_testBit_eq
  intro i
  rw [Nat.testBit_xor, Nat.testBit_two_pow_mul, Nat.testBit_two_pow_mul, Nat.testBit_two_pow_mul, Nat.testBit_xor]
  by_cases h : k ≤ i <;> simp [h]
theorem byte_xor {c r : Nat} (hc : c < 256) (hr : r < 8) : c ^^^ 2 ^ r < 256 := Nat.xor_lt_two_pow (n := 8) hc (Nat.pow_lt_pow_right (by omega) hr : (2 : Nat) ^ r < 2 ^ 8)
theorem numL_set (l : List Nat) (q r : Nat) (hl : ∀ c ∈ l, c < 256) (hq : q < l.length) (hr : r < 8) : numL (l.set q (l.getD q 0 ^^^ 2 ^ r)) = numL l ^^^ 2 ^ (8 * q + r) := by
  induction l generalizing q with
  | nil => simp at hq
  | cons c l ih =>
    have hc := hl c (by simp)
    have hl' : ∀ c ∈ l, c < 256 := fun c h => hl c (by simp [h])
    cases q with
    | zero =>
      simp only [List.set_cons_zero, List.getD_cons_zero, numL, Nat.mul_zero, Nat.zero_add]
      have e1 := join_xor 8 (c ^^^ 2 ^ r) (numL l) (byte_xor hc hr)
      have e2 := join_xor 8 c (numL l) hc
      rw [show (256 : Nat) = 2 ^ 8 by rfl, e1, e2, Nat.xor_assoc, Nat.xor_comm (2 ^ r), ← Nat.xor_assoc]
    | succ q =>
      have h := ih q hl' (by simpa using hq)
      simp only [List.set_cons_succ, List.getD_cons_succ, numL, h]
      have e1 := join_xor 8 c (numL l ^^^ 2 ^ (8 * q + r)) hc
      have e2 := join_xor 8 c (numL l) hc
      rw [show (256 : Nat) = 2 ^ 8 by rfl, e1, e2, mul_xor, Nat.xor_assoc, ← Nat.pow_add, show 8 + (8 * q + r) = 8 * (q + 1) + r by omega]
theorem set_lt (l : List Nat) (q x : Nat) (hl : ∀ c ∈ l, c < 256) (hx : x < 256) : ∀ c ∈ l.set q x, c < 256 := by
  intro c hc
  rcases List.mem_or_eq_of_mem_set hc with h | h
  · exact hl c h
  · omega
/-- what a sealed text's bytes come to -/
theorem valid_rest (t : List Nat) (n : Nat) (hl : ∀ c ∈ t, c < 256) (hn : t.length = n + 4) (hv : t.drop n = behL (sumL (t.take n))) : intoL 4294967295 t = stpN 32 4294967295 := by
  have hlt : ∀ c ∈ t.take n, c < 256 := fun c h => hl c (List.mem_of_mem_take h)
  have e : t = t.take n ++ t.drop n := (List.take_append_drop n t).symm
  have hs := sumL_lt _ hlt
  have hX := intoL_lt (t.take n) (x := 4294967295) (by omega) hlt
  have e0 : intoL 4294967295 t = intoL 4294967295 (t.take n ++ t.drop n) := by rw [← e]
  rw [e0, intoL_append, hv]
  have hsx : sumL (t.take n) = 4294967295 ^^^ intoL 4294967295 (t.take n) := rfl
  have hnum : numL (behL (sumL (t.take n))) = sumL (t.take n) := by
    generalize sumL (t.take n) = s at *
    simp only [behL, numL]
    omega
  have hb : ∀ c ∈ behL (sumL (t.take n)), c < 256 := behL_lt hs
  rw [intoL_num _ _ hb, hnum, hsx]
  show stpN (8 * 4) _ = _
  rw [Nat.xor_comm 4294967295, ← Nat.xor_assoc, Nat.xor_self, Nat.zero_xor]
theorem burst_law (l t : List Nat) (k b : Nat) (hl : ∀ c ∈ l, c < 256) (ht : ∀ c ∈ t, c < 256) (hlen : t.length = l.length + 4) (hk : k ≤ 8 * t.length) (hb : b < 4294967296) (hb0 : b ≠ 0)
    (hnum : numL t = numL (sealL l) ^^^ (2 ^ k * b)) : ¬ t.drop l.length = behL (sumL (t.take l.length)) := by
  intro hv
  have h1 := valid_rest t l.length ht hlen hv
  have h2 := valid_rest (sealL l) l.length (sealL_lt l hl) (sealL_length l) (by rw [seal_drop, seal_take])
  have h3 := h1.trans h2.symm
  rw [intoL_num _ _ ht, intoL_num _ _ (sealL_lt l hl), hnum, ← Nat.xor_assoc, stpN_xor, show (sealL l).length = t.length by rw [sealL_length, hlen]] at h3
  generalize stpN (8 * t.length) (4294967295 ^^^ numL (sealL l)) = y at h3
  have h4 : stpN (8 * t.length) (2 ^ k * b) = 0 := by
    have := congrArg (fun z => y ^^^ z) h3
    simp only [← Nat.xor_assoc, Nat.xor_self, Nat.zero_xor] at this
    exact this
  rw [show 8 * t.length = k + (8 * t.length - k) by omega, stpN_add, stpN_pow] at h4
  exact stpN_ne _ hb hb0 h4
end Go.Proofs.Ytbcdalgfceagcaa
