/- Walks of millraceref13: may, Bytes, Check. -/
import Derived.Test.YtjgdegkjkedfcaaKeepLawWhy
import Derived.Deep.DeepCutAuto
import Derived.BigQuiet
namespace Go.Proofs.Ytjgdegkjkedfcaa
open Go.RowKit

theorem refMay_ok (x : Int) (w : World) : Calls Try.prog 28 #[.int .i64 x] w fun e w' => e = .returned (.bool (goesB x)) ∧ w = w' := by
  unfold goesB
  by_cases h1 : 1 ≤ x
  · have d1 : decide (1 ≤ x) = true := decide_eq_true h1
    clear h1
    go_enter Try.func28, Try.ntmps28
    go_wp2
    go_ret
    exact ⟨by rw [d1]; rfl, rfl⟩
  · have d1 : decide (1 ≤ x) = false := decide_eq_false h1
    clear h1
    go_enter Try.func28, Try.ntmps28
    go_wp2
    go_ret
    exact ⟨by rw [d1]; rfl, rfl⟩

set_option maxHeartbeats 1600000 in
theorem refBytes_ok (a : Option Addr) (c : Nat) (l : List P3) (w : World) (hn : l.length ≤ 4096) (hpb : PcsB l) (hp : PcsAt w a l) :
    Calls Try.prog 18 #[.slice a l.length c] w fun e w' => e = .returned (.int .i64 (bytesS l)) ∧ w = w' := by
  have HPB := hide hpb
  have HTK : Hid (∀ k, k < l.length → bytesS (l.take (k + 1)) = bytesS (l.take k) + (l.getD k default).y) := hide (fun k hk => by
    have e : ∀ (u v : List P3), bytesS (u ++ v) = bytesS u + bytesS v := by
      intro u v
      induction u with
      | nil => simp [bytesS]
      | cons p u ih => simp only [List.cons_append, bytesS, ih]; omega
    rw [List.take_add_one, e, List.getElem?_eq_getElem hk]
    simp [bytesS, List.getD_eq_getElem?_getD, hk])
  have HTB := hide (fun k => bytesS_b (l := l.take k) (fun p hp => hpb p (List.mem_of_mem_take hp)))
  have HTL : Hid (∀ k, (l.take k).length ≤ 4096) := hide (fun k => by simp; omega)
  have HT0 : Hid (0 = bytesS (l.take 0)) := hide rfl
  obtain ⟨X, hX⟩ : ∃ X, X = bytesS l := ⟨_, rfl⟩
  rw [← hX]
  have HX : Hid (X = bytesS (l.take l.length)) := hide (by rw [hX, List.take_length])
  have HMEM : Hid (∀ k, k < l.length → l.getD k default ∈ l) := hide (fun k hk => by simp [List.getD_eq_getElem?_getD, hk])
  have HP := hide hp
  clear hX hpb hp
  generalize hnn : l.length = n at *
  have HNN := hide hnn
  clear hnn
  go_enter Try.func18, Try.ntmps18
  go_wp2
  go_loop [3, 4] (fun s i => ∃ (k : Nat) (S : Int), k ≤ n ∧ i = .int .i64 k ∧ s = .int .i64 S ∧ Hid (S = bytesS (l.take k))) (fun _ i => n - (intOf i).toNat)
  case atStart => exact ⟨0, 0, by omega, rfl, rfl, HT0⟩
  case round =>
    obtain ⟨k, S, hk, rfl, rfl, HS⟩ := hrel
    by_cases hlt : k < n
    · have d1 : decide ((k : Int) < (n : Int)) = true := decide_eq_true (by omega)
      have d1' : decide (k < n) = true := decide_eq_true hlt
      have hb := HTB.out k
      have hb2 := HTL.out k
      rw [← HS.out] at hb
      have hy := (HPB.out _ (HMEM.out k hlt)).2.1
      have hS := HTK.out k hlt
      rw [← HS.out] at hS
      obtain ⟨blk, off, rfl, c0, c1, c2⟩ := HP.out k (by rw [HNN.out]; exact hlt)
      generalize l.getD k default = pc at *
      obtain ⟨b, y, t⟩ := pc
      dsimp only at c0 c1 c2 hy hS
      have hw1 : IntKind.i64.wrap (S + y) = S + y := by rw [IntKind.wrap_i64]; omega
      have HSS := hide hS
      clear hS
      go_wp2
      go_round
      case rel => exact ⟨k + 1, S + y, by omega, by go_num, by go_num, hide HSS.out.symm⟩
      case measure => simp [intOf] <;> omega
    · obtain rfl : k = n := by omega
      have d1 : decide ((k : Int) < (k : Int)) = false := decide_eq_false (by omega)
      have d1' : decide (k < k) = false := decide_eq_false (by omega)
      have HV := hide (show X = S by rw [HX.out, HS.out])
      go_wp2
      go_ret
      exact ⟨by rw [HV.out] <;> rfl, rfl⟩

set_option maxHeartbeats 1600000 in
theorem refCheck_ok (r : R4) (w : World) : Calls Try.prog 16 #[.agg (ruleV r)] w fun e w' => e = .returned (.int .i64 (chkE r)) ∧ Below w.heap.size w w' := by
  obtain ⟨y, a, p, b⟩ := r
  have HB := hide ((Below.refl w.heap.size w).alloc (Nat.le_refl _) (.cells #[.int .i64 y, .int .i64 a, .int .i64 p, .int .i64 b] 29))
  obtain ⟨E, hE⟩ : ∃ E, E = chkE ⟨y, a, p, b⟩ := ⟨_, rfl⟩
  rw [← hE]
  unfold chkE chkB at hE
  simp only [Bool.and_eq_true, inB_iff] at hE
  unfold ruleV
  dsimp only
  by_cases h0 : y < 0
  · have d0 : decide (y < 0) = true := decide_eq_true h0
    have HE := hide (show E = 2 by rw [hE, if_neg (by omega)])
    clear hE h0
    go_enter Try.func16, Try.ntmps16
    go_wp2
    go_ret
    exact ⟨by rw [HE.out] <;> rfl, HB.out⟩
  have d0 : decide (y < 0) = false := decide_eq_false h0
  by_cases h1 : 9007199254740992 < y
  · have d1 : decide (9007199254740992 < y) = true := decide_eq_true h1
    have HE := hide (show E = 2 by rw [hE, if_neg (by omega)])
    clear hE h0 h1
    go_enter Try.func16, Try.ntmps16
    go_wp2
    go_ret
    exact ⟨by rw [HE.out] <;> rfl, HB.out⟩
  have d1 : decide (9007199254740992 < y) = false := decide_eq_false h1
  by_cases h2 : a < 0
  · have d2 : decide (a < 0) = true := decide_eq_true h2
    have HE := hide (show E = 2 by rw [hE, if_neg (by omega)])
    clear hE h0 h1 h2
    go_enter Try.func16, Try.ntmps16
    go_wp2
    go_ret
    exact ⟨by rw [HE.out] <;> rfl, HB.out⟩
  have d2 : decide (a < 0) = false := decide_eq_false h2
  by_cases h3 : 9007199254740992 < a
  · have d3 : decide (9007199254740992 < a) = true := decide_eq_true h3
    have HE := hide (show E = 2 by rw [hE, if_neg (by omega)])
    clear hE h0 h1 h2 h3
    go_enter Try.func16, Try.ntmps16
    go_wp2
    go_ret
    exact ⟨by rw [HE.out] <;> rfl, HB.out⟩
  have d3 : decide (9007199254740992 < a) = false := decide_eq_false h3
  by_cases h4 : p < 0
  · have d4 : decide (p < 0) = true := decide_eq_true h4
    have HE := hide (show E = 2 by rw [hE, if_neg (by omega)])
    clear hE h0 h1 h2 h3 h4
    go_enter Try.func16, Try.ntmps16
    go_wp2
    go_ret
    exact ⟨by rw [HE.out] <;> rfl, HB.out⟩
  have d4 : decide (p < 0) = false := decide_eq_false h4
  by_cases h5 : 4096 < p
  · have d5 : decide (4096 < p) = true := decide_eq_true h5
    have HE := hide (show E = 2 by rw [hE, if_neg (by omega)])
    clear hE h0 h1 h2 h3 h4 h5
    go_enter Try.func16, Try.ntmps16
    go_wp2
    go_ret
    exact ⟨by rw [HE.out] <;> rfl, HB.out⟩
  have d5 : decide (4096 < p) = false := decide_eq_false h5
  by_cases h6 : b < 0
  · have d6 : decide (b < 0) = true := decide_eq_true h6
    have HE := hide (show E = 2 by rw [hE, if_neg (by omega)])
    clear hE h0 h1 h2 h3 h4 h5 h6
    go_enter Try.func16, Try.ntmps16
    go_wp2
    go_ret
    exact ⟨by rw [HE.out] <;> rfl, HB.out⟩
  have d6 : decide (b < 0) = false := decide_eq_false h6
  by_cases h7 : 9007199254740992 < b
  · have d7 : decide (9007199254740992 < b) = true := decide_eq_true h7
    have HE := hide (show E = 2 by rw [hE, if_neg (by omega)])
    clear hE h0 h1 h2 h3 h4 h5 h6 h7
    go_enter Try.func16, Try.ntmps16
    go_wp2
    go_ret
    exact ⟨by rw [HE.out] <;> rfl, HB.out⟩
  have d7 : decide (9007199254740992 < b) = false := decide_eq_false h7
  have HE := hide (show E = 0 by rw [hE, if_pos (by omega)])
  clear hE h0 h1 h2 h3 h4 h5 h6 h7
  go_enter Try.func16, Try.ntmps16
  go_wp2
  go_ret
  exact ⟨by rw [HE.out] <;> rfl, HB.out⟩
end Go.Proofs.Ytjgdegkjkedfcaa
