/- The reference's Find, At. -/
import Derived.Test.YthbknahmmegcdaaIxRefOps
import Derived.Test.YthbknahmmegcdaaIxFind3
import Derived.Test.YthbknahmmegcdaaIxWF
namespace Go.Proofs.Ythbknahmmegcdaa
open Go.RowKit Go.Shelf
set_option linter.unusedVariables false

set_option maxRecDepth 100000 in
set_option maxHeartbeats 4000000 in
theorem refFind_ok (x : Int) {w : World} {base gr : Nat} {st : Int} {l : List S2} {v : Value} (h : RefO w base gr st l v) (hn : l.length ≤ 100000)
    (hmono : ∀ a b, a ≤ b → b < l.length → (l.getD a default).o ≤ (l.getD b default).o) :
    Calls Try.prog 23 #[.pointer (some ⟨gr, 0, none⟩), .int .i64 x] w fun e w' => e = .returned (.tuple #[.agg (spotV (lastR (fun s => decide (x < s.o)) l)), .bool (lastB (fun s => decide (x < s.o)) l)]) ∧ Below w.heap.size w w' := by
  obtain ⟨rS, hrS⟩ : ∃ y, y = lastR (fun s => decide (x < s.o)) l := ⟨_, rfl⟩
  obtain ⟨rB, hrB⟩ : ∃ y, y = lastB (fun s => decide (x < s.o)) l := ⟨_, rfl⟩
  rw [← hrS, ← hrB]
  have HRS := hide hrS
  have HRB := hide hrB
  clear hrS hrB
  obtain ⟨rSo, rSp⟩ := rS
  unfold spotV
  dsimp only
  have hb1 := (Below.refl w.heap.size w).alloc (Nat.le_refl _) (.cells #[.int .i64 0, .int .i64 0] 31)
  obtain ⟨w1, hw1⟩ : ∃ w1, w1 = w.alloc (.cells #[.int .i64 0, .int .i64 0] 31) := ⟨_, rfl⟩
  have hbx : w1.heap[w.heap.size]? = some (.cells #[.int .i64 0, .int .i64 0] 31 (0, 0)) := by rw [hw1]; exact heap_alloc_new w _
  rw [← hw1] at hb1
  have h1 := h.call hb1
  obtain ⟨ao, cap, rfl, hj1, hj2, hsp, hj3⟩ := h1.own.any
  clear hj1 hj2 hj3
  have c1 : w1.cell? ⟨gr, 1, none⟩ = some (.slice ao l.length cap) := by rw [cell_of_row _ _ _ _ _ _ h1.box]; rfl
  obtain ⟨t0, t1, t2⟩ := set_two hbx (.int .i64 0) (.int .i64 0)
  have HBX := hide hbx
  have HB1 := hide hb1
  have HSP := hide hsp
  have HMO := hide hmono
  have HN := hide hn
  have z0 : w1.cell? ⟨w.heap.size, 0, none⟩ = some (.int .i64 0) := by rw [cell_of_row _ _ _ _ _ _ hbx]; rfl
  have z1 : w1.cell? ⟨w.heap.size, 1, none⟩ = some (.int .i64 0) := by rw [cell_of_row _ _ _ _ _ _ hbx]; rfl
  have zf0 : w1.frozen? ⟨w.heap.size, 0, none⟩ = false := frozen_of_row _ _ _ _ _ hbx
  have zf1 : w1.frozen? ⟨w.heap.size, 1, none⟩ = false := frozen_of_row _ _ _ _ _ hbx
  clear h h1 hb1 hsp hbx hmono t0 t1 t2
  have hwn : IntKind.i64.wrap ((l.length : Int) - 1) = (l.length : Int) - 1 := by rw [IntKind.wrap_i64]; omega
  go_enter Try.func23, Try.ntmps23
  go_upto_region 1 with fail
  rw [← hw1]
  clear hw1
  go_wp2_with fail
  go_loopw [6] (fun i wr => ∃ k : Nat, k ≤ l.length ∧ i = .int .i64 ((k : Int) - 1) ∧ Hid (∀ j, k ≤ j → j < l.length → x < (l.getD j default).o) ∧ wr = w1) (fun i _ => ((intOf i) + 1).toNat)
  case atStart => exact ⟨l.length, Nat.le_refl _, rfl, hide (fun j h1 h2 => by omega), rfl⟩
  case round =>
    obtain ⟨k, hk, rfl, HJ, rfl⟩ := hrel
    by_cases hlt : 0 < k
    · obtain ⟨k0, rfl⟩ : ∃ k0, k = k0 + 1 := ⟨k - 1, by omega⟩
      obtain ⟨rb, of, rfl, m0, m1⟩ := HSP.out k0 (by omega)
      have hk0 : (((k0 + 1 : Nat) : Int) - 1) = (k0 : Int) := by omega
      rw [hk0]
      have hi1 : (k0 : Int) < (l.length : Int) := by omega
      have hi2 : k0 < l.length := by omega
      have dz : decide ((0 : Int) ≤ (k0 : Int)) = true := decide_eq_true (by omega)
      have hw2 : IntKind.i64.wrap ((k0 : Int) - 1) = (k0 : Int) - 1 := by rw [IntKind.wrap_i64]; have := HN.out; omega
      by_cases hx : (l.getD k0 default).o ≤ x
      · have hF : k0 + 1 = firstT (fun s => decide (x < s.o)) l := firstT_eq _ l (k0 + 1) (by omega) (fun a ha => by
          have := HMO.out a k0 (by omega) hi2
          simp only [decide_eq_false_iff_not]
          omega) (fun a h1 h2 => by simp only [decide_eq_true_eq]; exact HJ.out a h1 h2)
        have HR : Hid ((⟨rSo, rSp⟩ : S2) = l.getD k0 default ∧ rB = true) := hide (by
          rw [HRS.out, HRB.out]
          unfold lastR lastB
          rw [← hF, if_neg (by omega), decide_eq_false (by omega)]
          exact ⟨by rw [Nat.add_sub_cancel], rfl⟩)
        obtain ⟨q1, q2⟩ := HR.out
        clear HR hF hk hk0 HJ hlt HRS HRB
        generalize l.getD k0 default = s at *
        subst q1 q2
        dsimp only at *
        have dx : decide (rSo ≤ x) = true := decide_eq_true hx
        obtain ⟨t0, t1, t2⟩ := set_two HBX.out (.int .i64 rSo) (.int .i64 rSp)
        clear hx
        go_wp2_with fail
        refine bodyPost_ret (by simp [results, Try.results23, go_sem, t1, t2]; try rfl) rfl ?_
        exact ⟨rfl, (HB1.out.setCell (p := ⟨w.heap.size, 0, none⟩) (Nat.le_refl _) _).setCell (p := ⟨w.heap.size, 1, none⟩) (Nat.le_refl _) _⟩
      · have dx : decide ((l.getD k0 default).o ≤ x) = false := decide_eq_false hx
        have HJ2 : Hid (∀ j, k0 ≤ j → j < l.length → x < (l.getD j default).o) := hide (fun j h1 h2 => by
          by_cases e : j = k0
          · rw [e]; omega
          · exact HJ.out j (by omega) h2)
        clear hx HJ hk0 hlt
        generalize (l.getD k0 default).o = so at *
        generalize (l.getD k0 default).p = sp at *
        go_wp2_with fail
        go_roundw
        case rel => exact ⟨k0, by omega, rfl, HJ2, trivial⟩
        case measure => simp [intOf]
    · obtain rfl : k = 0 := by omega
      have hF : 0 = firstT (fun s => decide (x < s.o)) l := firstT_eq _ l 0 (by omega) (fun a ha => by omega) (fun a h1 h2 => by simp only [decide_eq_true_eq]; exact HJ.out a h1 h2)
      have HR : Hid ((⟨rSo, rSp⟩ : S2) = ⟨0, 0⟩ ∧ rB = false) := hide (by
        rw [HRS.out, HRB.out]
        unfold lastR lastB
        rw [← hF, if_pos rfl, decide_eq_true rfl]
        exact ⟨rfl, rfl⟩)
      obtain ⟨q1, q2⟩ := HR.out
      injection q1 with q3 q4
      subst q2 q3 q4
      obtain ⟨t0, t1, t2⟩ := set_two HBX.out (.int .i64 0) (.int .i64 0)
      clear HR hF hk HJ hlt HRS HRB
      go_wp2_with fail
      refine bodyPost_ret (by simp [results, Try.results23, go_sem, t1, t2]; try rfl) rfl ?_
      exact ⟨rfl, (HB1.out.setCell (p := ⟨w.heap.size, 0, none⟩) (Nat.le_refl _) _).setCell (p := ⟨w.heap.size, 1, none⟩) (Nat.le_refl _) _⟩

set_option maxRecDepth 100000 in
set_option maxHeartbeats 4000000 in
theorem refAt_ok (x : Int) {w : World} {base gr : Nat} {st : Int} {l : List S2} {v : Value} (h : RefO w base gr st l v) (hn : l.length ≤ 100000)
    (hmono : ∀ a b, a ≤ b → b < l.length → (l.getD a default).p ≤ (l.getD b default).p) :
    Calls Try.prog 24 #[.pointer (some ⟨gr, 0, none⟩), .int .i64 x] w fun e w' => e = .returned (.tuple #[.agg (spotV (lastR (fun s => decide (x < s.p)) l)), .bool (lastB (fun s => decide (x < s.p)) l)]) ∧ Below w.heap.size w w' := by
  obtain ⟨rS, hrS⟩ : ∃ y, y = lastR (fun s => decide (x < s.p)) l := ⟨_, rfl⟩
  obtain ⟨rB, hrB⟩ : ∃ y, y = lastB (fun s => decide (x < s.p)) l := ⟨_, rfl⟩
  rw [← hrS, ← hrB]
  have HRS := hide hrS
  have HRB := hide hrB
  clear hrS hrB
  obtain ⟨rSo, rSp⟩ := rS
  unfold spotV
  dsimp only
  have hb1 := (Below.refl w.heap.size w).alloc (Nat.le_refl _) (.cells #[.int .i64 0, .int .i64 0] 31)
  obtain ⟨w1, hw1⟩ : ∃ w1, w1 = w.alloc (.cells #[.int .i64 0, .int .i64 0] 31) := ⟨_, rfl⟩
  have hbx : w1.heap[w.heap.size]? = some (.cells #[.int .i64 0, .int .i64 0] 31 (0, 0)) := by rw [hw1]; exact heap_alloc_new w _
  rw [← hw1] at hb1
  have h1 := h.call hb1
  obtain ⟨ao, cap, rfl, hj1, hj2, hsp, hj3⟩ := h1.own.any
  clear hj1 hj2 hj3
  have c1 : w1.cell? ⟨gr, 1, none⟩ = some (.slice ao l.length cap) := by rw [cell_of_row _ _ _ _ _ _ h1.box]; rfl
  obtain ⟨t0, t1, t2⟩ := set_two hbx (.int .i64 0) (.int .i64 0)
  have HBX := hide hbx
  have HB1 := hide hb1
  have HSP := hide hsp
  have HMO := hide hmono
  have HN := hide hn
  have z0 : w1.cell? ⟨w.heap.size, 0, none⟩ = some (.int .i64 0) := by rw [cell_of_row _ _ _ _ _ _ hbx]; rfl
  have z1 : w1.cell? ⟨w.heap.size, 1, none⟩ = some (.int .i64 0) := by rw [cell_of_row _ _ _ _ _ _ hbx]; rfl
  have zf0 : w1.frozen? ⟨w.heap.size, 0, none⟩ = false := frozen_of_row _ _ _ _ _ hbx
  have zf1 : w1.frozen? ⟨w.heap.size, 1, none⟩ = false := frozen_of_row _ _ _ _ _ hbx
  clear h h1 hb1 hsp hbx hmono t0 t1 t2
  have hwn : IntKind.i64.wrap ((l.length : Int) - 1) = (l.length : Int) - 1 := by rw [IntKind.wrap_i64]; omega
  go_enter Try.func24, Try.ntmps24
  go_upto_region 1 with fail
  rw [← hw1]
  clear hw1
  go_wp2_with fail
  go_loopw [6] (fun i wr => ∃ k : Nat, k ≤ l.length ∧ i = .int .i64 ((k : Int) - 1) ∧ Hid (∀ j, k ≤ j → j < l.length → x < (l.getD j default).p) ∧ wr = w1) (fun i _ => ((intOf i) + 1).toNat)
  case atStart => exact ⟨l.length, Nat.le_refl _, rfl, hide (fun j h1 h2 => by omega), rfl⟩
  case round =>
    obtain ⟨k, hk, rfl, HJ, rfl⟩ := hrel
    by_cases hlt : 0 < k
    · obtain ⟨k0, rfl⟩ : ∃ k0, k = k0 + 1 := ⟨k - 1, by omega⟩
      obtain ⟨rb, of, rfl, m0, m1⟩ := HSP.out k0 (by omega)
      have hk0 : (((k0 + 1 : Nat) : Int) - 1) = (k0 : Int) := by omega
      rw [hk0]
      have hi1 : (k0 : Int) < (l.length : Int) := by omega
      have hi2 : k0 < l.length := by omega
      have dz : decide ((0 : Int) ≤ (k0 : Int)) = true := decide_eq_true (by omega)
      have hw2 : IntKind.i64.wrap ((k0 : Int) - 1) = (k0 : Int) - 1 := by rw [IntKind.wrap_i64]; have := HN.out; omega
      by_cases hx : (l.getD k0 default).p ≤ x
      · have hF : k0 + 1 = firstT (fun s => decide (x < s.p)) l := firstT_eq _ l (k0 + 1) (by omega) (fun a ha => by
          have := HMO.out a k0 (by omega) hi2
          simp only [decide_eq_false_iff_not]
          omega) (fun a h1 h2 => by simp only [decide_eq_true_eq]; exact HJ.out a h1 h2)
        have HR : Hid ((⟨rSo, rSp⟩ : S2) = l.getD k0 default ∧ rB = true) := hide (by
          rw [HRS.out, HRB.out]
          unfold lastR lastB
          rw [← hF, if_neg (by omega), decide_eq_false (by omega)]
          exact ⟨by rw [Nat.add_sub_cancel], rfl⟩)
        obtain ⟨q1, q2⟩ := HR.out
        clear HR hF hk hk0 HJ hlt HRS HRB
        generalize l.getD k0 default = s at *
        subst q1 q2
        dsimp only at *
        have dx : decide (rSp ≤ x) = true := decide_eq_true hx
        obtain ⟨t0, t1, t2⟩ := set_two HBX.out (.int .i64 rSo) (.int .i64 rSp)
        clear hx
        go_wp2_with fail
        refine bodyPost_ret (by simp [results, Try.results24, go_sem, t1, t2]; try rfl) rfl ?_
        exact ⟨rfl, (HB1.out.setCell (p := ⟨w.heap.size, 0, none⟩) (Nat.le_refl _) _).setCell (p := ⟨w.heap.size, 1, none⟩) (Nat.le_refl _) _⟩
      · have dx : decide ((l.getD k0 default).p ≤ x) = false := decide_eq_false hx
        have HJ2 : Hid (∀ j, k0 ≤ j → j < l.length → x < (l.getD j default).p) := hide (fun j h1 h2 => by
          by_cases e : j = k0
          · rw [e]; omega
          · exact HJ.out j (by omega) h2)
        clear hx HJ hk0 hlt
        generalize (l.getD k0 default).o = so at *
        generalize (l.getD k0 default).p = sp at *
        go_wp2_with fail
        go_roundw
        case rel => exact ⟨k0, by omega, rfl, HJ2, trivial⟩
        case measure => simp [intOf]
    · obtain rfl : k = 0 := by omega
      have hF : 0 = firstT (fun s => decide (x < s.p)) l := firstT_eq _ l 0 (by omega) (fun a ha => by omega) (fun a h1 h2 => by simp only [decide_eq_true_eq]; exact HJ.out a h1 h2)
      have HR : Hid ((⟨rSo, rSp⟩ : S2) = ⟨0, 0⟩ ∧ rB = false) := hide (by
        rw [HRS.out, HRB.out]
        unfold lastR lastB
        rw [← hF, if_pos rfl, decide_eq_true rfl]
        exact ⟨rfl, rfl⟩)
      obtain ⟨q1, q2⟩ := HR.out
      injection q1 with q3 q4
      subst q2 q3 q4
      obtain ⟨t0, t1, t2⟩ := set_two HBX.out (.int .i64 0) (.int .i64 0)
      clear HR hF hk HJ hlt HRS HRB
      go_wp2_with fail
      refine bodyPost_ret (by simp [results, Try.results24, go_sem, t1, t2]; try rfl) rfl ?_
      exact ⟨rfl, (HB1.out.setCell (p := ⟨w.heap.size, 0, none⟩) (Nat.le_refl _) _).setCell (p := ⟨w.heap.size, 1, none⟩) (Nat.le_refl _) _⟩
end Go.Proofs.Ythbknahmmegcdaa
