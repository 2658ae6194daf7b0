/- Walks of long, together. -/
import Derived.Test.YtbcdalgfceagcaaCrcPartsPlain
import Derived.Test.YtbcdalgfceagcaaCrcRef
namespace Go.Proofs.Ytbcdalgfceagcaa
open Go.RowKit

theorem joinL_len_succ (l : Nat → List Nat) (k : Nat) : (joinL l (k + 1)).length = (joinL l k).length + (l k).length := by rw [joinL_succ, List.length_append]
theorem joinL_lt {l : Nat → List Nat} {n : Nat} (h : ∀ i, i < n → ∀ c ∈ l i, c < 256) : ∀ k, k ≤ n → ∀ c ∈ joinL l k, c < 256 := by
  intro k
  induction k with
  | zero => intro _ c hc; simp [joinL] at hc
  | succ k ih =>
    intro hk c hc
    rw [joinL_succ, List.mem_append] at hc
    rcases hc with hc | hc
    · exact ih (by omega) c hc
    · exact h k (by omega) c hc

set_option maxHeartbeats 1600000 in
theorem long_ok (a : Option Addr) (n c : Nat) (A : Nat → Option Addr) (C : Nat → Nat) (l : Nat → List Nat) (w : World) (hn : n ≤ 9223372036854775807) (h : PartsAt w a n A C l) :
    Calls Try.prog 20 #[.slice a n c] w fun e w' => (e = .returned (.bool true) ∨ (e = .returned (.bool false) ∧ n ≤ 100 ∧ (joinL l n).length ≤ 20000)) ∧ w = w' := by
  have HAT := hide h.at_
  have HSM := hide h.small
  have HJ := hide (joinL_len_succ l)
  have HJ0 : Hid ((joinL l 0).length = 0) := hide rfl
  obtain ⟨M, hM⟩ : ∃ M : Nat → Nat, M = fun k => (joinL l k).length := ⟨_, rfl⟩
  have HM : Hid (∀ k, M (k + 1) = M k + (l k).length) := hide (fun k => by rw [hM]; exact HJ.out k)
  have HM0 : Hid (M 0 = 0) := hide (by rw [hM]; rfl)
  rw [show (joinL l n).length = M n by rw [hM]]
  clear hM HJ HJ0 h
  go_enter Try.func20, Try.ntmps20
  go_wp2
  go_loop [3, 4] (fun s i => ∃ k : Nat, k ≤ n ∧ k ≤ 101 ∧ i = .int .i64 k ∧ s = .int .i64 (M k : Nat) ∧ M k ≤ 20000 * k) (fun _ i => n - (intOf i).toNat)
  case atStart => exact ⟨0, Nat.zero_le _, by omega, rfl, by rw [HM0.out]; rfl, by rw [HM0.out]; omega⟩
  case round =>
    obtain ⟨k, hk, hk1, rfl, rfl, hMk⟩ := hrel
    by_cases hlt : k < n
    · have e1 : decide ((k : Int) < (n : Int)) = true := decide_eq_true (by omega)
      have e1' : decide (k < n) = true := decide_eq_true hlt
      by_cases hl1 : k < 101
      · have e2 : decide ((k : Int) < 101) = true := decide_eq_true (by omega)
        have e2' : decide (k < 101) = true := decide_eq_true hl1
        obtain ⟨b, off, rfl, hc0⟩ := HAT.out k hlt
        have hsm := (HSM.out k hlt).1
        have hm1 := HM.out k
        generalize (l k).length = m at *
        by_cases hbig : 20000 < m
        · have e3 : decide ((20000 : Int) < (m : Int)) = true := decide_eq_true (by omega)
          have e3' : decide (20000 < m) = true := decide_eq_true hbig
          clear hbig
          go_wp2
          go_ret
          exact ⟨.inl rfl, rfl⟩
        · have e3 : decide ((20000 : Int) < (m : Int)) = false := decide_eq_false (by omega)
          have e3' : decide (20000 < m) = false := decide_eq_false hbig
          have hw1 : IntKind.i64.wrap ((M k : Int) + (m : Int)) = (M k : Int) + (m : Int) := by rw [IntKind.wrap_i64]; omega
          have HM1 := hide hm1
          clear hm1
          go_wp2
          go_round
          case rel => exact ⟨k + 1, by omega, by omega, by go_num, by rw [HM1.out]; go_num, by rw [HM1.out]; omega⟩
          case measure => simp [intOf] <;> omega
      · have e2 : decide ((k : Int) < 101) = false := decide_eq_false (by omega)
        have e2' : decide (k < 101) = false := decide_eq_false hl1
        have e4 : decide ((100 : Int) < (n : Int)) = true := decide_eq_true (by omega)
        have e4' : decide (100 < n) = true := decide_eq_true (by omega)
        go_wp2
        go_ret
        exact ⟨.inl rfl, rfl⟩
    · obtain rfl : k = n := by omega
      have e1 : decide ((k : Int) < (k : Int)) = false := decide_eq_false (by omega)
      have e1' : decide (k < k) = false := decide_eq_false (by omega)
      by_cases h100 : 100 < k
      · have e4 : decide ((100 : Int) < (k : Int)) = true := decide_eq_true (by omega)
        have e4' : decide (100 < k) = true := decide_eq_true h100
        go_wp2
        go_ret
        exact ⟨.inl rfl, rfl⟩
      · have e4 : decide ((100 : Int) < (k : Int)) = false := decide_eq_false (by omega)
        have e4' : decide (100 < k) = false := decide_eq_false h100
        by_cases hbig : 20000 < M k
        · have e5 : decide ((20000 : Int) < (M k : Int)) = true := decide_eq_true (by omega)
          have e5' : decide (20000 < M k) = true := decide_eq_true hbig
          go_wp2
          go_ret
          exact ⟨.inl rfl, rfl⟩
        · have e5 : decide ((20000 : Int) < (M k : Int)) = false := decide_eq_false (by omega)
          have e5' : decide (20000 < M k) = false := decide_eq_false hbig
          go_wp2
          go_ret
          exact ⟨.inr ⟨rfl, by omega, by omega⟩, rfl⟩

set_option maxHeartbeats 1600000 in
theorem together_ok (a : Option Addr) (n c : Nat) (A : Nat → Option Addr) (C : Nat → Nat) (l : Nat → List Nat) (w : World) (hn : n ≤ 100) (h : PartsAt w a n A C l) (hnil : ∀ i, i < n → A i = none → (l i).length = 0 ∧ C i = 0) (hM : (joinL l n).length ≤ 20000) :
    Calls Try.prog 21 #[.slice a n c] w fun e w' => ∃ v, e = .returned v ∧ OwnBytes w' w.heap.size v (joinL l n) ∧ Below w.heap.size w w' := by
  obtain ⟨i0, hi, hz0, hz1, hz2⟩ := info_parts Try.info5
  have hmono : ∀ k, k ≤ n → (joinL l k).length ≤ (joinL l n).length := by
    intro k hk
    induction n with
    | zero =>
      have e : k = 0 := by omega
      rw [e]; exact Nat.le_refl _
    | succ n ih =>
      by_cases e : k = n + 1
      · rw [e]; exact Nat.le_refl _
      · have h2 : ∀ m, (joinL l m).length ≤ (joinL l (m + 1)).length := fun m => by rw [joinL_len_succ]; omega
        have h3 : ∀ m d, (joinL l m).length ≤ (joinL l (m + d)).length := fun m d => by
          induction d with
          | zero => exact Nat.le_refl _
          | succ d ihd => exact Nat.le_trans ihd (h2 _)
        have := h3 k (n + 1 - k)
        rwa [show k + (n + 1 - k) = n + 1 by omega] at this
  have HMO := hide hmono
  have HAT := hide h.at_
  have HTX := hide h.text
  have HNIL := hide hnil
  have HJ := hide (joinL_len_succ l)
  have HROW : Hid (∀ k, rowF (byteV (joinL l (k + 1))) (joinL l (k + 1)).length = rowF (byteV (joinL l k)) (joinL l k).length ++ rowF (byteV (l k)) (l k).length) := hide (fun k => by rw [joinL_succ, List.length_append]; exact rowF_append _ _)
  have H0 : Hid (OwnBytes w w.heap.size (.slice none 0 0) (joinL l 0)) := hide ⟨rfl, .inl ⟨rfl, rfl⟩⟩
  clear h hmono hnil
  go_enter Try.func21, Try.ntmps21
  go_wp2
  go_loopw [3, 4] (fun v i wr => ∃ k : Nat, k ≤ n ∧ i = .int .i64 k ∧ Hid (OwnBytes wr w.heap.size v (joinL l k)) ∧ Hid (Below w.heap.size w wr)) (fun _ i _ => n - (intOf i).toNat)
  case atStart => exact ⟨0, Nat.zero_le _, rfl, H0, hide (Below.refl _ _)⟩
  case round =>
    obtain ⟨k, hk, rfl, HO, HB⟩ := hrel
    by_cases hlt : k < n
    · obtain ⟨b, off, rfl, hc0⟩ := HAT.out k hlt
      have hc1 := (HB.out.cell (p := ⟨b, off + k, none⟩) (World.block_lt_of_cell? w _ hc0)).trans hc0
      have hz := HNIL.out k hlt
      have hj := HJ.out k
      have hmk := HMO.out (k + 1) (by omega)
      have hsrc := ((HTX.out k hlt).below HB.out (Nat.le_refl _)).src
      have hr := HROW.out k
      have ho := HO.out
      unfold OwnBytes at ho
      clear hc0
      generalize hLk : (l k).length = m at *
      generalize hJk : (joinL l k).length = M at *
      have hMm : M + m ≤ 20000 := by omega
      have HSRC := hide hsrc
      have HR := hide hr
      have HOO := hide ho
      have HJJ := hide hj
      clear hsrc hr ho hj
      have hw0 := HB.out.size
      go_wp2_with (at_builtin; (refine wpList_append_src rfl (.tmp 11) (.tmp 15) 22 rfl w.heap.size 5 i0 (.int .u8 0) 1 1 Try.underlying22 hi hz0 hz1 hz2 rfl (by decide) _ M (rowF (byteV (joinL l k)) M) rfl HOO.out (A k) m (C k) (rowF (byteV (l k)) m) rfl (by simp) hz HSRC.out (rowF_one _ _ (byteV_one _)) (by unfold maxLen; omega) (by omega) hw0 ?_); intro v2 w2 hown2 hgrow2; have HO2 := hide hown2; have HB2 := hide (below_own HB.out HOO.out (Nat.le_refl _) hw0 hgrow2); clear hown2 hgrow2)
      go_roundw
      case rel => exact ⟨k + 1, by omega, by go_num, hide (by unfold OwnBytes; rw [HR.out, HJJ.out]; exact HO2.out), HB2⟩
      case measure => simp [intOf] <;> omega
    · obtain rfl : k = n := by omega
      go_wp2
      go_ret
      exact ⟨_, rfl, HO.out, HB.out⟩
end Go.Proofs.Ytbcdalgfceagcaa
