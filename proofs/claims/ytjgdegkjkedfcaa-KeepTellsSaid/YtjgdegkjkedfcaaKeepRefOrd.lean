/- The walk of millraceref13.Ordered. (Written by wip/genreford.py.) -/
import Derived.Test.YtjgdegkjkedfcaaKeepRef
namespace Go.Proofs.Ytjgdegkjkedfcaa
open Go.RowKit

def prevB (l : List P3) : Nat → Int
  | 0 => -1
  | k + 1 => (l.getD k default).b

set_option maxHeartbeats 6400000 in
set_option maxRecDepth 100000 in
theorem refOrdered_ok (a : Option Addr) (c : Nat) (l : List P3) (w : World) (hn : l.length ≤ 9223372036854775807) (hp : PcsAt w a l) :
    Calls Try.prog 17 #[.slice a l.length c] w fun e w' => e = .returned (.int .i64 (ordE l)) ∧ Below w.heap.size w w' := by
  obtain ⟨E, hE⟩ : ∃ E, E = ordE l := ⟨_, rfl⟩
  rw [← hE]
  unfold ordE at hE
  by_cases hbig : 4096 < l.length
  · rw [if_pos hbig] at hE
    have d1 : decide ((4096 : Int) < (l.length : Int)) = true := decide_eq_true (by omega)
    have d1' : decide (4096 < l.length) = true := decide_eq_true hbig
    have HE := hide hE
    clear hbig hp hn hE
    generalize l.length = n at *
    go_enter Try.func17, Try.ntmps17
    go_wp2
    go_ret
    exact ⟨by rw [HE.out] <;> rfl, Below.refl _ _⟩
  rw [if_neg hbig] at hE
  have d1 : decide ((4096 : Int) < (l.length : Int)) = false := decide_eq_false (by omega)
  have d1' : decide (4096 < l.length) = false := decide_eq_false hbig
  have HP := hide hp
  have HD0 : Hid (ordFrom (-1) l = ordFrom (prevB l 0) (l.drop 0)) := hide rfl
  have HDC := hide (drop_cons l)
  have HDE : Hid (∀ last, ordFrom last (l.drop l.length) = true) := hide (fun last => by rw [List.drop_length]; rfl)
  have HPB : Hid (∀ k, prevB l (k + 1) = (l.getD k default).b) := hide (fun k => rfl)
  generalize ordFrom (-1) l = res at *
  have HE := hide hE
  have hn' : l.length ≤ 4096 := by omega
  clear hbig hp hn hE
  generalize hnn : l.length = n at *
  have HNN := hide hnn
  clear hnn
  go_enter Try.func17, Try.ntmps17
  go_wp2
  clear d1 d1'
  go_loopw [3] (fun i wr => ∃ (k : Nat), k ≤ n ∧ i = .int .i64 k ∧ Hid (res = ordFrom (prevB l k) (l.drop k)) ∧ Hid (Below w.heap.size w wr)) (fun i _ => n - (intOf i).toNat)
  case atStart => exact ⟨0, by omega, rfl, HD0, hide (Below.refl _ _)⟩
  case round =>
    obtain ⟨k, hk, rfl, HR, HB⟩ := hrel
    by_cases hlt : k < n
    · have d1 : decide ((k : Int) < (n : Int)) = true := decide_eq_true (by omega)
      have d1' : decide (k < n) = true := decide_eq_true hlt
      have hr : res = (okP (prevB l k) (l.getD k default) && ordFrom (prevB l (k + 1)) (l.drop (k + 1))) := by rw [HR.out, HDC.out k hlt]; rfl
      obtain ⟨blk, off, rfl, c0, c1, c2⟩ := (HP.out.below HB.out (Nat.le_refl _)) k (by rw [HNN.out]; exact hlt)
      have hP0 : 0 < k → wr.cell? ⟨blk, off + (k - 1) * 3, none⟩ = some (.int .i64 (prevB l k)) := fun h => by
        obtain ⟨b2, o2, e, e0, _⟩ := (HP.out.below HB.out (Nat.le_refl _)) (k - 1) (by rw [HNN.out]; omega)
        injection e with e
        injection e with e1 e2
        subst e1 e2
        rw [e0]
        obtain ⟨k', rfl⟩ : ∃ k', k = k' + 1 := ⟨k - 1, by omega⟩
        rfl
      have hP1 : k = 0 → prevB l k = -1 := fun h => by rw [h]; rfl
      obtain ⟨last, hlast⟩ : ∃ x, x = prevB l k := ⟨_, rfl⟩
      rw [← hlast] at hP0 hP1 hr
      have HREST : Hid (ordFrom (prevB l (k + 1)) (l.drop (k + 1)) = ordFrom (prevB l (k + 1)) (l.drop (k + 1))) := hide rfl
      obtain ⟨rest, hrest⟩ : ∃ rest, rest = ordFrom (prevB l (k + 1)) (l.drop (k + 1)) := ⟨_, rfl⟩
      rw [← hrest] at hr
      have HRR := hide hrest
      clear hrest hlast HREST
      generalize l.getD k default = pc at *
      obtain ⟨b, y, t⟩ := pc
      unfold okP at hr
      dsimp only at c0 c1 c2 hr
      have hx1 : (k : Int) < (n : Int) := by omega
      have hx2 : (0 : Int) ≤ (k : Int) := by omega
      have HRX := hide hr
      have HP0 := hide hP0
      have HP1 := hide hP1
      clear hr hP0 hP1
      by_cases h0 : b < 0
      · have q0 : decide (b < 0) = true := decide_eq_true h0
        have HQ : Hid (res = false) := hide (by
          rw [HRX.out, Bool.and_eq_false_iff]
          left
          rw [Bool.and_eq_false_iff]
          right; rw [Bool.eq_false_iff]; simp only [ne_eq, Bool.and_eq_true, inB_iff]; omega)
        clear h0
        go_upto_region 6 with fail
        go_quiet (fail)
        go_wp2_with fail
        go_ret
        exact ⟨by rw [HE.out, HQ.out] <;> rfl, belowDrewN HB.out _⟩
      have q0 : decide (b < 0) = false := decide_eq_false h0
      by_cases h1 : 9007199254740992 < b
      · have q1 : decide (9007199254740992 < b) = true := decide_eq_true h1
        have HQ : Hid (res = false) := hide (by
          rw [HRX.out, Bool.and_eq_false_iff]
          left
          rw [Bool.and_eq_false_iff]
          right; rw [Bool.eq_false_iff]; simp only [ne_eq, Bool.and_eq_true, inB_iff]; omega)
        clear h0 h1
        go_upto_region 6 with fail
        go_quiet (fail)
        go_wp2_with fail
        go_ret
        exact ⟨by rw [HE.out, HQ.out] <;> rfl, belowDrewN HB.out _⟩
      have q1 : decide (9007199254740992 < b) = false := decide_eq_false h1
      by_cases h2 : y < 0
      · have q2 : decide (y < 0) = true := decide_eq_true h2
        have HQ : Hid (res = false) := hide (by
          rw [HRX.out, Bool.and_eq_false_iff]
          left
          rw [Bool.and_eq_false_iff]
          right; rw [Bool.eq_false_iff]; simp only [ne_eq, Bool.and_eq_true, inB_iff]; omega)
        clear h0 h1 h2
        go_upto_region 6 with fail
        go_quiet (fail)
        go_wp2_with fail
        go_ret
        exact ⟨by rw [HE.out, HQ.out] <;> rfl, belowDrewN HB.out _⟩
      have q2 : decide (y < 0) = false := decide_eq_false h2
      by_cases h3 : 16777216 < y
      · have q3 : decide (16777216 < y) = true := decide_eq_true h3
        have HQ : Hid (res = false) := hide (by
          rw [HRX.out, Bool.and_eq_false_iff]
          left
          rw [Bool.and_eq_false_iff]
          right; rw [Bool.eq_false_iff]; simp only [ne_eq, Bool.and_eq_true, inB_iff]; omega)
        clear h0 h1 h2 h3
        go_upto_region 6 with fail
        go_quiet (fail)
        go_wp2_with fail
        go_ret
        exact ⟨by rw [HE.out, HQ.out] <;> rfl, belowDrewN HB.out _⟩
      have q3 : decide (16777216 < y) = false := decide_eq_false h3
      by_cases h4 : t < 0
      · have q4 : decide (t < 0) = true := decide_eq_true h4
        have HQ : Hid (res = false) := hide (by
          rw [HRX.out, Bool.and_eq_false_iff]
          left
          rw [Bool.and_eq_false_iff]
          right; rw [Bool.eq_false_iff]; simp only [ne_eq, Bool.and_eq_true, inB_iff]; omega)
        clear h0 h1 h2 h3 h4
        go_upto_region 6 with fail
        go_quiet (fail)
        go_wp2_with fail
        go_ret
        exact ⟨by rw [HE.out, HQ.out] <;> rfl, belowDrewN HB.out _⟩
      have q4 : decide (t < 0) = false := decide_eq_false h4
      by_cases h5 : 9007199254740992 < t
      · have q5 : decide (9007199254740992 < t) = true := decide_eq_true h5
        have HQ : Hid (res = false) := hide (by
          rw [HRX.out, Bool.and_eq_false_iff]
          left
          rw [Bool.and_eq_false_iff]
          right; rw [Bool.eq_false_iff]; simp only [ne_eq, Bool.and_eq_true, inB_iff]; omega)
        clear h0 h1 h2 h3 h4 h5
        go_upto_region 6 with fail
        go_quiet (fail)
        go_wp2_with fail
        go_ret
        exact ⟨by rw [HE.out, HQ.out] <;> rfl, belowDrewN HB.out _⟩
      have q5 : decide (9007199254740992 < t) = false := decide_eq_false h5
      by_cases hk0 : k = 0
      · have hl1 := HP1.out hk0
        have q6 : decide ((0 : Int) < (k : Int)) = false := decide_eq_false (by omega)
        have q6' : decide (0 < k) = false := decide_eq_false (by omega)
        clear hk0
        have HQ : Hid (res = rest) := hide (by
          have e : (!decide (b ≤ last) && (inB b 9007199254740992 && (inB y 16777216 && inB t 9007199254740992))) = true := by
            simp only [Bool.and_eq_true, inB_iff, Bool.not_eq_true', decide_eq_false_iff_not]; omega
          rw [HRX.out, e, Bool.true_and])
        clear h0 h1 h2 h3 h4 h5
        go_upto_region 6 with fail
        go_quiet (fail)
        go_wp2_with fail
        go_roundw
        case rel => exact ⟨_, by omega, by go_num, hide (HQ.out.trans HRR.out), hide (belowDrewN HB.out _)⟩
        case measure => simp [intOf] <;> omega
      · have hl1 := HP0.out (by omega)
        have q6 : decide ((0 : Int) < (k : Int)) = true := decide_eq_true (by omega)
        have q6' : decide (0 < k) = true := decide_eq_true (by omega)
        have q7 : IntKind.i64.wrap ((k : Int) - 1) = ((k - 1 : Nat) : Int) := by rw [IntKind.wrap_i64]; omega
        have q8 : k - 1 < n := by omega
        by_cases h6 : b ≤ last
        · have q9 : decide (b ≤ last) = true := decide_eq_true h6
          have HQ : Hid (res = false) := hide (by
            rw [HRX.out, Bool.and_eq_false_iff]
            left
            rw [Bool.and_eq_false_iff]
            left; simp [h6])
          clear h0 h1 h2 h3 h4 h5 h6
          go_upto_region 6 with fail
          go_quiet (fail)
          go_wp2_with fail
          go_ret
          exact ⟨by rw [HE.out, HQ.out] <;> rfl, belowDrewN HB.out _⟩
        have q9 : decide (b ≤ last) = false := decide_eq_false h6
        have HQ : Hid (res = rest) := hide (by
          have e : (!decide (b ≤ last) && (inB b 9007199254740992 && (inB y 16777216 && inB t 9007199254740992))) = true := by
            simp only [Bool.and_eq_true, inB_iff, Bool.not_eq_true', decide_eq_false_iff_not]; omega
          rw [HRX.out, e, Bool.true_and])
        clear h0 h1 h2 h3 h4 h5 h6
        go_upto_region 6 with fail
        go_quiet (fail)
        go_wp2_with fail
        go_roundw
        case rel => exact ⟨_, by omega, by go_num, hide (HQ.out.trans HRR.out), hide (belowDrewN HB.out _)⟩
        case measure => simp [intOf] <;> omega
    · obtain rfl : k = n := by omega
      have d1 : decide ((k : Int) < (k : Int)) = false := decide_eq_false (by omega)
      have d1' : decide (k < k) = false := decide_eq_false (by omega)
      have HRR := hide (show res = true by rw [HR.out, HDE.out])
      go_wp2
      go_ret
      exact ⟨by rw [HE.out, HRR.out] <;> rfl, HB.out⟩
end Go.Proofs.Ytjgdegkjkedfcaa
