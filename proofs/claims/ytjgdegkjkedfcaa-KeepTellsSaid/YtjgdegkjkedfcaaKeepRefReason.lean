/- The walk of millraceref13.reason. -/
import Derived.Test.YtjgdegkjkedfcaaKeepRef
namespace Go.Proofs.Ytjgdegkjkedfcaa
open Go.RowKit

structure RSt (w wc : World) (g : Nat) (r : R4) : Prop where
  box : BoxR wc g r
  bel : Below w.heap.size w wc
theorem RSt.call {w wc w2 : World} {g : Nat} {r : R4} (h : RSt w wc g r) (hB : Below wc.heap.size wc w2) : RSt w w2 g r := ⟨h.box.same hB, h.bel.trans (hB.mono h.bel.size)⟩
theorem RSt.drewN {w wc : World} {g : Nat} {r : R4} (h : RSt w wc g r) (k : Nat) : RSt w (wc.drewN k) g r := ⟨h.box, belowDrewN h.bel k⟩
theorem RSt.drew {w wc : World} {g : Nat} {r : R4} (h : RSt w wc g r) : RSt w wc.drew g r := ⟨h.box, h.bel.drew⟩
theorem RSt.new (w : World) (r : R4) : RSt w (w.alloc (.cells (ruleV r) 29)) w.heap.size r := ⟨BoxR.new w r, (Below.refl _ _).alloc (Nat.le_refl _) _⟩
theorem PcsAt.drop {w : World} {b off : Nat} {l : List P3} (h : PcsAt w (some ⟨b, off, none⟩) l) (k : Nat) : PcsAt w (some ⟨b, off + k * 3, none⟩) (l.drop k) := by
  intro j hj
  obtain ⟨b2, off2, e, h1, h2, h3⟩ := h (k + j) (by simp at hj; omega)
  injection e with e
  injection e with e1 e2
  subst e1 e2
  have e : (l.drop k).getD j default = l.getD (k + j) default := by rw [List.getD_eq_getElem?_getD, List.getD_eq_getElem?_getD, List.getElem?_drop]
  rw [e]
  refine ⟨b, off + k * 3, rfl, ?_⟩
  rw [show off + k * 3 + j * 3 = off + (k + j) * 3 by omega]
  exact ⟨h1, h2, h3⟩

set_option maxHeartbeats 3200000 in
set_option maxRecDepth 100000 in
/-- the last one -/
theorem reason_last (r : R4) (now : Int) (a : Option Addr) (c : Nat) (l : List P3) (k : Nat) (w : World) (hk : k + 1 = l.length) (hn : l.length ≤ 4096) (hc : l.length ≤ c) (hp : PcsAt w a l) :
    Calls Try.prog 29 #[.agg (ruleV r), .int .i64 now, .slice a l.length c, .int .i64 (k : Nat)] w fun e w' => e = .returned (.int .i64 4) ∧ Below w.heap.size w w' := by
  obtain ⟨ry, ra, rp, rw'⟩ := r
  have HX0 := hide (RSt.new w ⟨ry, ra, rp, rw'⟩)
  obtain ⟨blk, off, rfl, _⟩ := hp 0 (by omega)
  rw [← hk] at hc hn ⊢
  have hw1 : IntKind.i64.wrap ((k : Int) + 1) = (k : Int) + 1 := by rw [IntKind.wrap_i64]; omega
  have j1 : (k : Int) + 1 ≤ (c : Int) := by omega
  unfold ruleV at HX0 ⊢
  clear hp hk
  by_cases hcc : c = k + 1
  · subst hcc
    go_enter Try.func29, Try.ntmps29
    go_wp2_with fail
    go_ret
    exact ⟨rfl, HX0.out.bel⟩
  · go_enter Try.func29, Try.ntmps29
    go_wp2_with fail
    go_ret
    exact ⟨rfl, HX0.out.bel⟩

set_option maxHeartbeats 6400000 in
set_option maxRecDepth 100000 in
/-- one that is not the last -/
theorem reason_mid (r : R4) (now : Int) (a : Option Addr) (c : Nat) (l : List P3) (k : Nat) (w : World) (hk : k + 1 < l.length) (hn : l.length ≤ 4096) (hc : l.length ≤ c) (hnow : inB now 9007199254740992 = true) (hpb : PcsB l) (hp : PcsAt w a l) :
    Calls Try.prog 29 #[.agg (ruleV r), .int .i64 now, .slice a l.length c, .int .i64 (k : Nat)] w fun e w' => e = .returned (.int .i64 (rsn r now (l.getD k default) (l.drop (k + 1)))) ∧ Below w.heap.size w w' := by
  obtain ⟨ry, ra, rp, rw'⟩ := r
  have HX0 := hide (RSt.new w ⟨ry, ra, rp, rw'⟩)
  obtain ⟨blk, off, rfl, _⟩ := hp 0 (by omega)
  have hmem : ∀ k, k < l.length → l.getD k default ∈ l := fun k hk => by simp [List.getD_eq_getElem?_getD, hk]
  have HPB := hide (hpb _ (hmem k (by omega)))
  have HPN := hide ((hpb _ (hmem (k + 1) hk)))
  have hdp : PcsAt w (some ⟨blk, off + (k + 1) * 3, none⟩) (l.drop (k + 1)) := hp.drop (k + 1)
  have HBY := hide (fun (c' : Nat) (w' : World) (hB : Below w.heap.size w w') => refBytes_ok (some ⟨blk, off + (k + 1) * 3, none⟩) c' (l.drop (k + 1)) w' (by rw [List.length_drop]; omega) (fun p hp => hpb p (List.mem_of_mem_drop hp)) (hdp.below hB (Nat.le_refl _)))
  have HC := hide (fun (w' : World) (hB : Below w.heap.size w w') => (hp.below hB (Nat.le_refl _)) k (by omega))
  have HD := hide (fun (w' : World) (hB : Below w.heap.size w w') => (hp.below hB (Nat.le_refl _)) (k + 1) hk)
  have hnb := inB_iff.1 hnow
  obtain ⟨R, hR⟩ : ∃ R, R = rsn ⟨ry, ra, rp, rw'⟩ now (l.getD k default) (l.drop (k + 1)) := ⟨_, rfl⟩
  rw [← hR]
  rw [rsn_more _ _ _ _ _ hk] at hR
  have hlen : (l.drop (k + 1)).length = l.length - (k + 1) := by rw [List.length_drop]
  rw [hlen] at HBY
  dsimp only at hR
  generalize bytesS (l.drop (k + 1)) = S at *
  generalize l.getD k default = p0 at *
  generalize l.getD (k + 1) default = p1 at *
  obtain ⟨b0, y0, t0⟩ := p0
  obtain ⟨b1, y1, t1⟩ := p1
  dsimp only at hR HPB HPN HC HD
  have HR := hide hR
  have ht := HPB.out.2.2
  clear hR hp hdp hpb hmem hlen hnow
  generalize l.length = n at *
  have hw1 : IntKind.i64.wrap ((k : Int) + 1) = (k : Int) + 1 := by rw [IntKind.wrap_i64]; omega
  have j1 : (k : Int) + 1 ≤ (c : Int) := by omega
  have hcc : ¬ c = k + 1 := by omega
  have hl0 : n - (k + 1) ≠ 0 := by omega
  have hl1 : ((n - (k + 1) : Nat) : Int) = (n : Int) - 1 - (k : Int) := by omega
  unfold ruleV at HX0 ⊢
  have hl2 : (((n - (k + 1) : Nat) : Int) == 0) = false := by rw [beq_eq_false_iff_ne]; omega
  have HL1 := hide hl1
  clear hl1
  obtain ⟨x0, x1, x2, x3⟩ := HX0.out.box.cells
  go_enter Try.func29, Try.ntmps29
  go_upto_region 4 with fail
  clear hl2 hl0
  generalize n - (k + 1) = m at *
  clear x0 x1 x2 x3 hw1 j1 hcc
  go_cut [18] from 19 to 25 (fun q wc => q = .bool (decide (rw' < b1)) ∧ Hid (RSt w wc w.heap.size ⟨ry, ra, rp, rw'⟩))
  case first =>
    obtain ⟨x0, x1, x2, x3⟩ := HX0.out.box.cells
    obtain ⟨b', o', e, d0, _, _⟩ := HD.out _ HX0.out.bel
    injection e with e
    injection e with e1 e2
    subst e1 e2
    have hm0 : (0 : Int) < (m : Int) := by have := HL1.out; omega
    go_quiet (fail)
    have HX1 := hide (HX0.out.drewN nq)
    go_wp2_with fail
    go_meet
    exact ⟨rfl, HX1⟩
  case rest =>
  obtain ⟨rfl, HX1⟩ := hcut
  by_cases hbl : rw' < b1
  · have HE := hide (show R = 5 by rw [HR.out, if_pos hbl])
    have q1 : decide (rw' < b1) = true := decide_eq_true hbl
    rw [q1]
    clear hbl
    go_wp2_with fail
    go_ret
    exact ⟨by rw [HE.out] <;> rfl, HX1.out.bel⟩
  have q1 : decide (rw' < b1) = false := decide_eq_false hbl
  have HR2 := hide (HR.out.trans (if_neg hbl))
  rw [q1]
  clear hbl q1
  go_upto_region 6 with fail
  go_cut [26] from 27 to 36 (fun q wc => q = .bool (decide (0 < ry ∧ ry ≤ S)) ∧ Hid (RSt w wc w.heap.size ⟨ry, ra, rp, rw'⟩))
  case first =>
    obtain ⟨x0, x1, x2, x3⟩ := HX1.out.box.cells
    by_cases hy : 0 < ry
    · have q2 : decide (0 < ry) = true := decide_eq_true hy
      have HB2 := hide (HX1.out.bel)
      have HS : Hid (decide (ry ≤ S) = decide (0 < ry ∧ ry ≤ S)) := hide (by simp [hy])
      clear hy
      go_quiet ((go_at_call 18; exact Calls.quiet_of_same ((HBY.out _ _ (belowDrewN HB2.out _)).mono (fun _ _ h => ⟨h.1, h.2.symm⟩))))
      have HX2 := hide (HX1.out.drewN nq)
      go_wp2_with fail
      go_meet
      exact ⟨by rw [← HS.out] <;> rfl, HX2⟩
    · have q2 : decide (0 < ry) = false := decide_eq_false hy
      have HS : Hid (false = decide (0 < ry ∧ ry ≤ S)) := hide (by simp [hy])
      clear hy
      go_quiet (fail)
      have HX2 := hide (HX1.out.drewN nq)
      go_wp2_with fail
      go_meet
      exact ⟨by rw [← HS.out] <;> rfl, HX2⟩
  case rest =>
  obtain ⟨rfl, HX2⟩ := hcut
  by_cases hy : 0 < ry ∧ ry ≤ S
  · have HE := hide (show R = 1 by rw [HR2.out, if_pos hy])
    have q1 : decide (0 < ry ∧ ry ≤ S) = true := decide_eq_true hy
    rw [q1]
    clear hy
    go_wp2_with fail
    go_ret
    exact ⟨by rw [HE.out] <;> rfl, HX2.out.bel⟩
  have q1 : decide (0 < ry ∧ ry ≤ S) = false := decide_eq_false hy
  have HR3 := hide (HR2.out.trans (if_neg hy))
  rw [q1]
  clear hy q1
  go_upto_region 8 with fail
  go_cut [37] from 38 to 52 (fun q wc => q = .bool (decide (0 < ra ∧ ra < now - t0)) ∧ Hid (RSt w wc w.heap.size ⟨ry, ra, rp, rw'⟩))
  case first =>
    obtain ⟨x0, x1, x2, x3⟩ := HX2.out.box.cells
    obtain ⟨b', o', e, _, _, d2⟩ := HC.out _ HX2.out.bel
    injection e with e
    injection e with e1 e2
    subst e1 e2
    have hk0 : (k : Int) < (n : Int) := by omega
    by_cases hy : 0 < ra
    · have q2 : decide (0 < ra) = true := decide_eq_true hy
      have q3 : IntKind.i64.wrap (now - t0) = now - t0 := by rw [IntKind.wrap_i64]; omega
      have HS : Hid (decide (ra < now - t0) = decide (0 < ra ∧ ra < now - t0)) := hide (by simp [hy])
      clear hy
      go_quiet (fail)
      have HX3 := hide (HX2.out.drewN nq)
      go_wp2_with fail
      go_meet
      exact ⟨by rw [← HS.out] <;> rfl, HX3⟩
    · have q2 : decide (0 < ra) = false := decide_eq_false hy
      have HS : Hid (false = decide (0 < ra ∧ ra < now - t0)) := hide (by simp [hy])
      clear hy
      go_quiet (fail)
      have HX3 := hide (HX2.out.drewN nq)
      go_wp2_with fail
      go_meet
      exact ⟨by rw [← HS.out] <;> rfl, HX3⟩
  case rest =>
  obtain ⟨rfl, HX3⟩ := hcut
  by_cases hy : 0 < ra ∧ ra < now - t0
  · have HE := hide (show R = 2 by rw [HR3.out, if_pos hy])
    have q1 : decide (0 < ra ∧ ra < now - t0) = true := decide_eq_true hy
    rw [q1]
    clear hy
    go_wp2_with fail
    go_ret
    exact ⟨by rw [HE.out] <;> rfl, HX3.out.bel⟩
  have q1 : decide (0 < ra ∧ ra < now - t0) = false := decide_eq_false hy
  have HR4 := hide (HR3.out.trans (if_neg hy))
  rw [q1]
  clear hy q1
  have hr4 := HR4.out
  rw [← HL1.out] at hr4
  obtain ⟨x0, x1, x2, x3⟩ := HX3.out.box.cells
  by_cases h0 : 0 < rp
  · have q2 : decide (0 < rp) = true := decide_eq_true h0
    by_cases h1 : rp ≤ (m : Int)
    · have q3 : decide (rp ≤ (m : Int)) = true := decide_eq_true h1
      have HE := hide (show R = 3 by rw [hr4, if_pos ⟨h0, h1⟩])
      clear h0 h1 hr4
      go_wp2_with fail
      go_ret
      exact ⟨by rw [HE.out] <;> rfl, HX3.out.bel⟩
    · have q3 : decide (rp ≤ (m : Int)) = false := decide_eq_false h1
      have HE := hide (show R = 0 by rw [hr4, if_neg (fun h => h1 h.2)])
      clear h0 h1 hr4
      go_wp2_with fail
      go_ret
      exact ⟨by rw [HE.out] <;> rfl, HX3.out.bel⟩
  · have q2 : decide (0 < rp) = false := decide_eq_false h0
    have HE := hide (show R = 0 by rw [hr4, if_neg (fun h => h0 h.1)])
    clear h0 hr4
    go_wp2_with fail
    go_ret
    exact ⟨by rw [HE.out] <;> rfl, HX3.out.bel⟩
end Go.Proofs.Ytjgdegkjkedfcaa
