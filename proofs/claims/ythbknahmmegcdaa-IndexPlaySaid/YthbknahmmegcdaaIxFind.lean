/- Walks of sort.Search, index's last, Find, At. -/
import Derived.Test.YthbknahmmegcdaaIxMay
import Derived.WalkMore
import Derived.Deep.DeepCutAuto
namespace Go.Proofs.Ythbknahmmegcdaa
open Go.RowKit

/-- the first place at which p holds, by halves -/
def half (p : Nat → Bool) : Nat → Nat → Nat → Nat
  | 0, i, _ => i
  | f + 1, i, j => if i < j then (if p ((i + j) / 2) then half p f i ((i + j) / 2) else half p f ((i + j) / 2 + 1) j) else i
theorem half_low (p : Nat → Bool) : ∀ (f i j : Nat), i ≤ j → i ≤ half p f i j ∧ half p f i j ≤ j
  | 0, i, j, h => ⟨Nat.le_refl _, h⟩
  | f + 1, i, j, h => by
    unfold half
    split
    · split
      · have := half_low p f i ((i + j) / 2) (by omega)
        omega
      · have := half_low p f ((i + j) / 2 + 1) j (by omega)
        omega
    · exact ⟨Nat.le_refl _, h⟩

set_option maxHeartbeats 1600000 in
/-- sort.Search of a test that only makes memory: the first place at which it holds -/
theorem Search_ok (cx cy : Value) (n : Nat) (p : Nat → Bool) (w : World) (hn : n ≤ 4611686018427387904)
    (hf : ∀ (i : Nat) (w' : World), i < n → Below w.heap.size w w' → Calls Try.prog 43 #[.int .i64 (i : Nat), cx, cy] w' fun e w'' => e = .returned (.bool (p i)) ∧ Below w'.heap.size w' w'')
    (hmono : ∀ a b, a ≤ b → b < n → p a = true → p b = true) :
    Calls Try.prog 42 #[.int .i64 (n : Nat), .func (.func 43) #[] #[cx, cy]] w fun e w' => ∃ r, e = .returned (.int .i64 (r : Nat)) ∧ r ≤ n ∧ (∀ a, a < r → p a = false) ∧ (∀ a, r ≤ a → a < n → p a = true) ∧ Below w.heap.size w w' := by
  have HF := hide hf
  have HM := hide hmono
  clear hf hmono
  go_enter Try.func42, Try.ntmps42
  go_wp2
  go_loopw [5, 6] (fun i j wr => ∃ a b : Nat, i = .int .i64 a ∧ j = .int .i64 b ∧ a ≤ b ∧ b ≤ n ∧ Hid (∀ x, x < a → p x = false) ∧ Hid (∀ x, b ≤ x → x < n → p x = true) ∧ Hid (Below w.heap.size w wr)) (fun i j _ => (intOf j).toNat - (intOf i).toNat)
  case atStart => exact ⟨0, n, rfl, rfl, by omega, by omega, hide (fun x hx => by omega), hide (fun x h1 h2 => by omega), hide (Below.refl _ _)⟩
  case round =>
    obtain ⟨a, b, rfl, rfl, hab, hbn, HA, HB, HW⟩ := hrel
    by_cases hlt : a < b
    · have d1 : decide ((a : Int) < (b : Int)) = true := decide_eq_true (by omega)
      have d1' : decide (a < b) = true := decide_eq_true hlt
      have hw1 : IntKind.i64.wrap ((a : Int) + (b : Int)) = ((a + b : Nat) : Int) := by rw [IntKind.wrap_i64]; omega
      have hw2 : IntKind.u64.wrap ((a + b : Nat) : Int) = ((a + b : Nat) : Int) := by simp [IntKind.wrap, IntKind.bits, IntKind.signed]; omega
      go_upto_region 4 with fail
      clear d1 d1' hw1 hw2
      have e1 : ((a : Int) + (b : Int)) / 2 = (((a + b) / 2 : Nat) : Int) := by omega
      rw [e1]
      clear e1
      have hm1 : a ≤ (a + b) / 2 := by omega
      have hm2 : (a + b) / 2 < b := by omega
      generalize (a + b) / 2 = m at *
      have HC := hide (HF.out m wr (by omega) HW.out)
      have HPM : Hid (∀ x, p x = p x) := hide (fun _ => rfl)
      obtain ⟨q, hq⟩ : ∃ q, q = p m := ⟨_, rfl⟩
      rw [← hq] at HC
      have HQ := hide hq
      have hw3 : IntKind.i64.wrap ((m : Int) + 1) = (m : Int) + 1 := by rw [IntKind.wrap_i64]; omega
      clear hq HPM
      go_wp2_with fail
      refine HC.out.mono ?_
      rintro e w1 ⟨rfl, hB⟩
      have HW1 := hide (HW.out.trans (hB.mono HW.out.size))
      clear hB
      cases q
      · go_wp2
        go_roundw
        case rel => exact ⟨m + 1, b, by go_num, rfl, by omega, hbn, hide (fun x hx => by
          by_cases hp : p x = true
          · have := HM.out x m (by omega) (by omega) hp
            rw [← HQ.out] at this
            cases this
          · simpa using hp), HB, HW1⟩
        case measure => simp [intOf] <;> omega
      · go_wp2
        go_roundw
        case rel => exact ⟨a, m, rfl, rfl, by omega, by omega, HA, hide (fun x h1 h2 => HM.out m x h1 h2 HQ.out.symm), HW1⟩
        case measure => simp [intOf] <;> omega
    · obtain rfl : a = b := by omega
      have d1 : decide ((a : Int) < (a : Int)) = false := decide_eq_false (by omega)
      have d1' : decide (a < a) = false := decide_eq_false (by omega)
      go_wp2
      go_ret
      exact ⟨a, rfl, hbn, HA.out, HB.out, HW.out⟩
end Go.Proofs.Ythbknahmmegcdaa
