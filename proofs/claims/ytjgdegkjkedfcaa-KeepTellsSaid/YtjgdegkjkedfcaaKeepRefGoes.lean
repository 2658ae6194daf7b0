/- Walks of millraceref13: Goes, Why. -/
import Derived.Test.YtjgdegkjkedfcaaKeepRefReason
namespace Go.Proofs.Ytjgdegkjkedfcaa
open Go.RowKit

theorem reason_ok (r : R4) (now : Int) (a : Option Addr) (c : Nat) (l : List P3) (k : Nat) (w : World) (hk : k < l.length) (hn : l.length ≤ 4096) (hc : l.length ≤ c) (hnow : inB now 9007199254740992 = true) (hpb : PcsB l) (hp : PcsAt w a l) :
    Calls Try.prog 29 #[.agg (ruleV r), .int .i64 now, .slice a l.length c, .int .i64 (k : Nat)] w fun e w' => e = .returned (.int .i64 ((alsL r now l).getD k 0)) ∧ Below w.heap.size w w' := by
  rw [alsL_getD r now l k hk]
  by_cases h : k + 1 = l.length
  · have e : l.drop (k + 1) = [] := by rw [h]; exact List.drop_length
    rw [e]
    exact reason_last r now a c l k w h hn hc hp
  · exact reason_mid r now a c l k w (by omega) hn hc hnow hpb hp

set_option maxHeartbeats 1600000 in
theorem refGoes_ok (r : R4) (now : Int) (a : Option Addr) (c : Nat) (l : List P3) (w : World) (hn : l.length ≤ 4096) (hc : l.length ≤ c) (hnow : inB now 9007199254740992 = true) (hpb : PcsB l) (hp : PcsAt w a l) :
    Calls Try.prog 20 #[.agg (ruleV r), .int .i64 now, .slice a l.length c] w fun e w' => e = .returned (.int .i64 (cntL (alsL r now l) : Nat)) ∧ Below w.heap.size w w' := by
  have HRS := hide (fun (k : Nat) (hk : k < l.length) (w' : World) (hB : Below w.heap.size w w') => reason_ok r now a c l k w' hk hn hc hnow hpb (hp.below hB (Nat.le_refl _)))
  have hle := cntL_le (alsL r now l)
  rw [alsL_length] at hle
  have HLT := hide (cnt_lt (alsL r now l))
  have HAT := hide (cnt_at (alsL r now l))
  obtain ⟨ry, ra, rp, rw'⟩ := r
  have HX0 := hide (RSt.new w ⟨ry, ra, rp, rw'⟩)
  unfold ruleV at *
  clear hp hpb hnow hc
  obtain ⟨F, hF⟩ : ∃ F : Nat → Int, F = fun k => (alsL ⟨ry, ra, rp, rw'⟩ now l).getD k 0 := ⟨_, rfl⟩
  have eF : ∀ k, (alsL ⟨ry, ra, rp, rw'⟩ now l).getD k 0 = F k := fun k => by rw [hF]
  simp only [eF] at HRS HLT HAT
  clear hF eF
  generalize cntL (alsL ⟨ry, ra, rp, rw'⟩ now l) = m at *
  generalize l.length = n at *
  obtain ⟨x0, x1, x2, x3⟩ := HX0.out.box.cells
  go_enter Try.func20, Try.ntmps20
  go_wp2
  clear x0 x1 x2 x3
  go_loopw [7] (fun i wr => ∃ (k : Nat), k ≤ m ∧ i = .int .i64 k ∧ Hid (RSt w wr w.heap.size ⟨ry, ra, rp, rw'⟩)) (fun i _ => n - (intOf i).toNat)
  case atStart => exact ⟨0, by omega, rfl, HX0⟩
  case round =>
    obtain ⟨k, hk, rfl, HX⟩ := hrel
    obtain ⟨x0, x1, x2, x3⟩ := HX.out.box.cells
    by_cases hkn : k < n
    · have d1 : decide ((k : Int) < (n : Int)) = true := decide_eq_true (by omega)
      have d1' : decide (k < n) = true := decide_eq_true hkn
      have HC := hide (HRS.out k hkn wr HX.out.bel)
      by_cases hkm : k < m
      · have hg := HLT.out k hkm
        generalize F k = x at *
        go_wp2_with fail
        refine HC.out.mono ?_
        rintro e w1 ⟨rfl, hB⟩
        have HX1 := hide (HX.out.call hB)
        clear hB x0 x1 x2 x3
        go_wp2_with (go_at_call 28; with_reducible refine (refMay_ok _ _).mono ?_; rintro e w' ⟨rfl, rfl⟩)
        go_roundw
        case rel => exact ⟨k + 1, by omega, by go_num, HX1⟩
        case measure => simp [intOf] <;> omega
      · obtain rfl : k = m := by omega
        have hg := HAT.out
        generalize F k = x at *
        go_wp2_with fail
        refine HC.out.mono ?_
        rintro e w1 ⟨rfl, hB⟩
        have HX1 := hide (HX.out.call hB)
        clear hB x0 x1 x2 x3
        go_wp2_with (go_at_call 28; with_reducible refine (refMay_ok _ _).mono ?_; rintro e w' ⟨rfl, rfl⟩)
        go_ret
        exact ⟨rfl, HX1.out.bel⟩
    · obtain rfl : k = n := by omega
      obtain rfl : k = m := by omega
      have d1 : decide ((k : Int) < (k : Int)) = false := decide_eq_false (by omega)
      have d1' : decide (k < k) = false := decide_eq_false (by omega)
      go_wp2
      go_ret
      exact ⟨rfl, HX.out.bel⟩

set_option maxHeartbeats 1600000 in
theorem refWhy_ok (r : R4) (now : Int) (a : Option Addr) (c : Nat) (l : List P3) (k : Nat) (w : World) (hk : k < l.length) (hn : l.length ≤ 4096) (hc : l.length ≤ c) (hnow : inB now 9007199254740992 = true) (hpb : PcsB l) (hp : PcsAt w a l) :
    Calls Try.prog 21 #[.agg (ruleV r), .int .i64 now, .slice a l.length c, .int .i64 (k : Nat)] w fun e w' => e = .returned (.int .i64 (if goesB ((alsL r now l).getD k 0) = true ∧ cntL (alsL r now l) ≤ k then 6 else (alsL r now l).getD k 0)) ∧ Below w.heap.size w w' := by
  have HRS := hide (fun (w' : World) (hB : Below w.heap.size w w') => reason_ok r now a c l k w' hk hn hc hnow hpb (hp.below hB (Nat.le_refl _)))
  have HGO := hide (fun (w' : World) (hB : Below w.heap.size w w') => refGoes_ok r now a c l w' hn hc hnow hpb (hp.below hB (Nat.le_refl _)))
  obtain ⟨X, hX⟩ : ∃ X, X = (if goesB ((alsL r now l).getD k 0) = true ∧ cntL (alsL r now l) ≤ k then 6 else (alsL r now l).getD k 0) := ⟨_, rfl⟩
  rw [← hX]
  have HX := hide hX
  obtain ⟨ry, ra, rp, rw'⟩ := r
  have HX0 := hide (RSt.new w ⟨ry, ra, rp, rw'⟩)
  unfold ruleV at *
  clear hp hpb hnow hc hX
  generalize (alsL ⟨ry, ra, rp, rw'⟩ now l).getD k 0 = x at *
  generalize cntL (alsL ⟨ry, ra, rp, rw'⟩ now l) = m at *
  generalize l.length = n at *
  obtain ⟨x0, x1, x2, x3⟩ := HX0.out.box.cells
  go_enter Try.func21, Try.ntmps21
  go_wp2_with fail
  refine (HRS.out _ HX0.out.bel).mono ?_
  rintro e w1 ⟨rfl, hB⟩
  have HX1 := hide (HX0.out.call hB)
  clear hB x0 x1 x2 x3
  obtain ⟨x0, x1, x2, x3⟩ := HX1.out.box.cells
  cases hg : goesB x
  · have HE := hide (show X = x by rw [HX.out, if_neg (by rw [hg]; simp)])
    go_wp2_with (go_at_call 28; with_reducible refine (refMay_ok _ _).mono ?_; rintro e w' ⟨rfl, rfl⟩)
    go_ret
    exact ⟨by rw [HE.out] <;> rfl, HX1.out.bel⟩
  · go_wp2_with (go_at_call 28; with_reducible refine (refMay_ok _ _).mono ?_; rintro e w' ⟨rfl, rfl⟩)
    refine (HGO.out _ HX1.out.bel).mono ?_
    rintro e w2 ⟨rfl, hB⟩
    have HX2 := hide (HX1.out.call hB)
    clear hB x0 x1 x2 x3
    by_cases hm : m ≤ k
    · have HE := hide (show X = 6 by rw [HX.out, if_pos ⟨hg, hm⟩])
      have d1 : decide ((m : Int) ≤ (k : Int)) = true := decide_eq_true (by omega)
      have d1' : decide (m ≤ k) = true := decide_eq_true hm
      clear hm
      go_wp2_with fail
      go_ret
      exact ⟨by rw [HE.out] <;> rfl, HX2.out.bel⟩
    · have HE := hide (show X = x by rw [HX.out, if_neg (fun h => hm h.2)])
      have d1 : decide ((m : Int) ≤ (k : Int)) = false := decide_eq_false (by omega)
      have d1' : decide (m ≤ k) = false := decide_eq_false hm
      clear hm
      go_wp2_with fail
      go_ret
      exact ⟨by rw [HE.out] <;> rfl, HX2.out.bel⟩
end Go.Proofs.Ytjgdegkjkedfcaa
