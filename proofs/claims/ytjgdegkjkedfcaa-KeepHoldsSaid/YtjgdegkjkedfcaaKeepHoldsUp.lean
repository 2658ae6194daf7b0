/- KeepHolds: the main way, the later time is no earlier. (Written by wip/genholds.py.) -/
import Derived.Test.YtjgdegkjkedfcaaKeepHoldsEarly
namespace Go.Proofs.Ytjgdegkjkedfcaa
open Go.RowKit

set_option maxHeartbeats 6400000 in
set_option maxRecDepth 100000 in
theorem holds_up (r : R4) (now later at0 : Int) (a : Option Addr) (c : Nat) (l : List P3) (w : World) (hn : l.length ≤ 9223372036854775807) (hp : PcsAt w a l) (hcap : l.length ≤ c) (h60 : l.length ≤ 60) (h1 : chkB r = true) (h2 : ordE l = 0) (h3 : inB now 9007199254740992 = true) (h4 : inB later 9007199254740992 = true) (hle : now ≤ later) :
    Calls Try.prog 5 #[.agg (caseV r now later at0 a l.length c)] w fun e w' => e = .returned (.bool true) ∧ Below w.heap.size w w' := by
  have HC0 := hide (case_new w (caseV r now later at0 a l.length c) r)
  have HCH := hide (Check_ok r)
  have HOR := hide (fun (w' : World) (hB : Below w.heap.size w w') => Ordered_ok a c l w' hn (hp.below hB (Nat.le_refl _)))
  have HNW := hide (now_ok now)
  have HNL := hide (now_ok later)
  unfold chkE at HCH
  have d1 : decide ((60 : Int) < (l.length : Int)) = false := decide_eq_false (by omega)
  have d1' : decide (60 < l.length) = false := decide_eq_false (by omega)
  have hm0 : mayE r now l = 0 := mayE_of h1 h3 h2
  have hmt : ∀ r2 t, chkB r2 = true → inB t 9007199254740992 = true → mayE r2 t l = 0 := fun r2 t ha hb => mayE_of ha hb h2
  have hcb := h1
  unfold chkB at hcb
  simp only [Bool.and_eq_true, inB_iff] at hcb
  have hnb := inB_iff.1 h3
  have hlb := inB_iff.1 h4
  have HG := hide (fun (r2 : R4) (t : Int) (hc : chkB r2 = true) (ht : inB t 9007199254740992 = true) (w' : World) (hB : Below w.heap.size w w') => by
    have h := Goes_ok r2 t a c l w' hn (hp.below hB (Nat.le_refl _))
    rw [goesN_of (hmt r2 t hc ht), hmt r2 t hc ht] at h
    exact h)
  have HN := hide (fun (w' : World) (hB : Below w.heap.size w w') => by
    have h := Next_ok r now a c l w' hn (hp.below hB (Nat.le_refl _))
    rw [hm0] at h
    exact h)
  have hgb := goes_behind hm0
  have HBH := hide (fun (a' : Option Addr) (c' : Nat) (w' : World) (hp' : PcsAt w' a' (l.drop (cntL (alsL r now l)))) => by
    have h := Goes_ok r now a' c' (l.drop (cntL (alsL r now l))) w' (by rw [List.length_drop]; omega) hp'
    rw [hgb.1, hgb.2, List.length_drop] at h
    exact h)
  have hbb := fun h => base_below (r := r) (now := now) (l := l) h
  have hl0 := cntL_le (alsL r now l)
  rw [alsL_length] at hl0
  have hl1 := fun h => cnt_lt_len r now l h
  have HMONO := hide (fun (r2 : R4) (h : Less r r2) => cnt_mono h (Int.le_refl now) l)
  have HYES := hide (fun hb => next_yes (r := r) hm0 hb)
  have HT0 : Hid (nextB r now l = false → nextT r now l = 0) := hide (fun h => by unfold nextT; rw [h]; rfl)
  have HK1 := hide (HG.out r now h1 h3)
  have HK2 := hide (HG.out r later h1 h4)
  have HTT := hide (fun t ht => HG.out r t h1 ht)
  have HP := hide hp
  have HCB := hide hcb
  have hll := cnt_mono (Less.refl r) hle l
  have HNO := hide (fun hb => next_no (r := r) hm0 hb hle hlb.2)
  have HLT := hide (fun t (ht : t ≤ later) => cnt_mono (Less.refl r) ht l)
  have e1 : decide (now ≤ later) = true := decide_eq_true hle
  have e2 : decide (later < now) = false := decide_eq_false (by omega)
  rw [h1] at HCH
  rw [h2] at HOR
  rw [h3] at HNW
  rw [h4] at HNL
  obtain ⟨C, hC⟩ : ∃ C : R4 → Int → Nat, C = fun r2 t => cntL (alsL r2 t l) := ⟨_, rfl⟩
  have eC : ∀ r2 t, cntL (alsL r2 t l) = C r2 t := fun r2 t => by rw [hC]
  simp only [eC] at HG HBH hbb hl0 hl1 HMONO HYES HK1 HK2 HTT hll HNO HLT
  obtain ⟨T, hT⟩ : ∃ T, T = nextT r now l := ⟨_, rfl⟩
  obtain ⟨B, hB⟩ : ∃ B, B = nextB r now l := ⟨_, rfl⟩
  rw [← hT, ← hB] at HN
  rw [← hT] at HYES HT0
  rw [← hB] at HYES HT0 HNO
  clear hC eC hT hB hm0 hmt hgb hp hn hcb h1 h2 h3 h4
  have HBB := hide hbb
  have HL1 := hide hl1
  clear hbb hl1
  generalize hcn : C r now = cn at *
  generalize hcl : C r later = cl at *
  have HCN := hide hcn
  have HCL := hide hcl
  clear hcn hcl
  generalize hnn : l.length = nl at *
  have HNN := hide hnn
  clear hnn
  obtain ⟨ry, ra, rp, rw'⟩ := r
  unfold caseV ruleV at *
  go_enter Try.func5, Try.ntmps5
  go_wp2_with fail
  go_big_region
  obtain ⟨w0, hw0⟩ : ∃ w0, w0 = ((w.alloc (.cells #[.int .i64 ry, .int .i64 ra, .int .i64 rp, .int .i64 rw', .int .i64 now, .int .i64 later, .int .i64 at0, .slice a nl c] 34)).alloc (.cells #[.int .i64 ry, .int .i64 ra, .int .i64 rp, .int .i64 rw'] 29)).drew := ⟨_, rfl⟩
  have HX0 : Hid (HWs w w0 (w.heap.size + 1) ⟨ry, ra, rp, rw'⟩) := hide (by rw [hw0]; exact ⟨HC0.out.2, HC0.out.1⟩)
  rw [← hw0]
  obtain ⟨b0, b1, b2, b3⟩ := HX0.out.box.cells
  clear HC0 hw0
  go_wp2_with fail
  refine (HCH.out w0).mono ?_
  rintro e w1 ⟨rfl, hB⟩
  have HX1 := hide (HX0.out.call hB)
  clear hB b0 b1 b2 b3
  go_wp2_with (go_at_call 8; with_reducible refine (num_ok _ _).mono ?_; rintro e w' ⟨rfl, rfl⟩)
  refine (HOR.out w1 HX1.out.bel).mono ?_
  rintro e w2 ⟨rfl, hB⟩
  have HX2 := hide (HX1.out.call hB)
  clear hB
  obtain ⟨b0, b1, b2, b3⟩ := HX2.out.box.cells
  go_wp2_with (first
    | (go_at_call 8; with_reducible refine (num_ok _ _).mono ?_; rintro e w' ⟨rfl, rfl⟩)
    | (go_at_call 12; with_reducible refine (HNW.out _).mono ?_; rintro e w' ⟨rfl, rfl⟩)
    | (go_at_call 12; with_reducible refine (HNL.out _).mono ?_; rintro e w' ⟨rfl, rfl⟩))
  refine (HK1.out w2 HX2.out.bel).mono ?_
  rintro e w3 ⟨rfl, hB⟩
  have HX3 := hide (HX2.out.call hB)
  clear hB b0 b1 b2 b3
  go_upto_region 5 with fail
  go_cut [104] from 64 to 104 (fun q wc => q = .bool false ∧ Hid (HWs w wc (w.heap.size + 1) ⟨ry, ra, rp, rw'⟩))
  case first =>
    as_aux_lemma =>
      have i0 : decide ((cn : Int) < 0) = false := decide_eq_false (by omega)
      obtain ⟨b0, b1, b2, b3⟩ := HX3.out.box.cells
      by_cases hz : nl = 0
      · obtain rfl : cn = 0 := by omega
        subst hz
        go_quiet ((go_at_call 8; exact Calls.quiet_of_same ((num_ok 0 _).mono (fun _ _ h => ⟨h.1, h.2.symm⟩))))
        have HX4 := hide (HX3.out.drewN nq)
        go_wp2_with fail
        go_meet
        exact ⟨rfl, HX4⟩
      · have i1 : decide ((0 : Int) < (nl : Int)) = true := decide_eq_true (by omega)
        have i1' : decide (0 < nl) = true := decide_eq_true (by omega)
        have hlt := HL1.out (by omega)
        have i2 : decide ((nl : Int) ≤ (cn : Int)) = false := decide_eq_false (by omega)
        have i2' : decide (nl ≤ cn) = false := decide_eq_false (by omega)
        have i3 : ((nl : Int) == 0) = false := by rw [beq_eq_false_iff_ne]; omega
        by_cases hc0 : cn = 0
        · subst hc0
          go_quiet ((go_at_call 8; exact Calls.quiet_of_same ((num_ok 0 _).mono (fun _ _ h => ⟨h.1, h.2.symm⟩))))
          have HX4 := hide (HX3.out.drewN nq)
          go_wp2_with fail
          go_meet
          exact ⟨rfl, HX4⟩
        · have i4 : decide ((0 : Int) < (cn : Int)) = true := decide_eq_true (by omega)
          have i4' : decide (0 < cn) = true := decide_eq_true (by omega)
          have hbl := (HBB.out (by omega)).1
          have i5 : (cn : Int) < (nl : Int) := by omega
          obtain ⟨blk, off, rfl, p0, p1, p2⟩ := (HP.out.below HX3.out.bel (Nat.le_refl _)) cn (by rw [HNN.out]; exact hlt)
          generalize l.getD cn default = pc at *
          obtain ⟨pb, py, pt⟩ := pc
          dsimp only at hbl p0 p1 p2
          have i6 : decide (rw' < pb) = false := decide_eq_false (by omega)
          go_quiet ((go_at_call 8; exact Calls.quiet_of_same ((num_ok 0 _).mono (fun _ _ h => ⟨h.1, h.2.symm⟩))))
          have HX4 := hide (HX3.out.drewN nq)
          go_wp2_with fail
          go_meet
          exact ⟨rfl, HX4⟩
  case rest =>
  obtain ⟨rfl, HX4⟩ := hcut
  go_upto_region 7 with fail
  go_cut [9, 10] from 105 to 113 (fun x y wc => x = .int .i64 0 ∧ y = .int .i64 0 ∧ Hid (HWs w wc (w.heap.size + 1) ⟨ry, ra, rp, rw'⟩))
  case first =>
    as_aux_lemma =>
      obtain ⟨b0, b1, b2, b3⟩ := HX4.out.box.cells
      have j0 : (0 : Int) ≤ (cn : Int) := by omega
      have j1 : (cn : Int) ≤ (nl : Int) := by omega
      by_cases hz : nl = 0
      · obtain rfl : cn = 0 := by omega
        subst hz
        have HE := hide (fun (a' : Option Addr) (c' : Nat) (w' : World) => HBH.out a' c' w' (PcsAt.empty a' (by rw [List.length_drop, HNN.out])))
        go_region_with (go_at_call 7; refine (HE.out _ _ _).mono ?_; rintro e w5 ⟨rfl, hB⟩; have HX5 := hide (HX4.out.drew.call hB); clear hB)
        all_goals (go_wp2_with fail; go_meet; exact ⟨rfl, rfl, HX5⟩)
      · have hlt := HL1.out (by omega)
        obtain ⟨blk, off, rfl, _⟩ := HP.out 0 (by rw [HNN.out]; omega)
        have HE := hide (fun (c' : Nat) (w' : World) (hB : Below w.heap.size w w') => HBH.out (some ⟨blk, off + cn * 3, none⟩) c' w' ((HP.out.below hB (Nat.le_refl _)).drop cn))
        have hcc : ¬ c = cn := by omega
        go_region_with (go_at_call 7; refine (HE.out _ _ HX4.out.drew.bel).mono ?_; rintro e w5 ⟨rfl, hB⟩; have HX5 := hide (HX4.out.drew.call hB); clear hB)
        all_goals (go_wp2_with fail; go_meet; exact ⟨rfl, rfl, HX5⟩)
  case rest =>
  obtain ⟨rfl, rfl, HX5⟩ := hcut
  obtain ⟨b0, b1, b2, b3⟩ := HX5.out.box.cells
  go_wp2_with (go_at_call 8; with_reducible refine (num_ok _ _).mono ?_; rintro e w' ⟨rfl, rfl⟩)
  refine (HK2.out _ HX5.out.bel).mono ?_
  rintro e w6 ⟨rfl, hB⟩
  have HX6 := hide (HX5.out.call hB)
  clear hB b0 b1 b2 b3
  obtain ⟨b0, b1, b2, b3⟩ := HX6.out.box.cells
  have k1 : decide ((cl : Int) < (cn : Int)) = false := decide_eq_false (by omega)
  have k1' : decide (cl < cn) = false := decide_eq_false (by omega)
  go_upto_region 14 with ((go_at_call 8; with_reducible refine (num_ok _ _).mono ?_; rintro e w' ⟨rfl, rfl⟩))
  have HL0 := hide (LSs.new HX6.out ⟨ry, ra, rp, rw'⟩)
  unfold ruleV at HL0
  have hgl : w.heap.size + 1 < w6.heap.size := HX6.out.box.lt
  have HGL := hide hgl
  clear hgl b0 b1 b2 b3
  obtain ⟨w7, hw7⟩ : ∃ w7, w7 = w6.alloc (.cells #[.int .i64 ry, .int .i64 ra, .int .i64 rp, .int .i64 rw'] 29) := ⟨_, rfl⟩
  rw [← hw7] at HL0 ⊢
  clear hw7
  generalize hgLe : w6.heap.size = gL at *
  clear hgLe
  obtain ⟨b0, b1, b2, b3⟩ := HL0.out.lbox.cells
  go_upto_if 144 with fail
  clear b0 b1 b2 b3
  go_cut [] from 142 to 148 (fun wc => ∃ y2 : Int, Hid (y2 = ry ∨ (1 < ry ∧ y2 = ry - 1)) ∧ Hid (LSs w wc (w.heap.size + 1) gL ⟨ry, ra, rp, rw'⟩ ⟨y2, ra, rp, rw'⟩))
  case first =>
    as_aux_lemma =>
      obtain ⟨b0, b1, b2, b3⟩ := HL0.out.lbox.cells
      have f0 := HL0.out.free 0
      by_cases hcond : 1 < ry
      · have q1 : decide (1 < ry) = true := decide_eq_true hcond
        have q2 : IntKind.i64.wrap (ry - 1) = ry - 1 := by first | (have := HCB.out; dsimp only at this; rw [IntKind.wrap_i64]; omega) | (have := HCB.out; rw [IntKind.wrap_i64]; omega)
        have HLs := hide (HL0.out.set (r3 := ⟨ry - 1, ra, rp, rw'⟩) (by have := HGL.out; omega) (by have := HGL.out; omega) 0 (ry - 1) rfl)
        have HCO := hide hcond
        clear hcond
        rw [q1]
        go_wp2_with fail
        go_meet
        exact ⟨_, hide (.inr ⟨HCO.out, rfl⟩), HLs⟩
      · have q1 : decide (1 < ry) = false := decide_eq_false hcond
        clear hcond
        rw [q1]
        go_wp2_with fail
        go_meet
        exact ⟨_, hide (.inl rfl), HL0⟩
  case rest =>
  obtain ⟨y2, HD0, HL1⟩ := hcut
  obtain ⟨b0, b1, b2, b3⟩ := HL1.out.lbox.cells
  go_upto_if 151 with fail
  clear b0 b1 b2 b3
  go_cut [] from 149 to 155 (fun wc => ∃ a2 : Int, Hid (a2 = ra ∨ (1 < ra ∧ a2 = ra - 1)) ∧ Hid (LSs w wc (w.heap.size + 1) gL ⟨ry, ra, rp, rw'⟩ ⟨y2, a2, rp, rw'⟩))
  case first =>
    as_aux_lemma =>
      obtain ⟨b0, b1, b2, b3⟩ := HL1.out.lbox.cells
      have f1 := HL1.out.free 1
      by_cases hcond : 1 < ra
      · have q1 : decide (1 < ra) = true := decide_eq_true hcond
        have q2 : IntKind.i64.wrap (ra - 1) = ra - 1 := by first | (have := HCB.out; dsimp only at this; rw [IntKind.wrap_i64]; omega) | (have := HCB.out; rw [IntKind.wrap_i64]; omega)
        have HLs := hide (HL1.out.set (r3 := ⟨y2, ra - 1, rp, rw'⟩) (by have := HGL.out; omega) (by have := HGL.out; omega) 1 (ra - 1) rfl)
        have HCO := hide hcond
        clear hcond
        rw [q1]
        go_wp2_with fail
        go_meet
        exact ⟨_, hide (.inr ⟨HCO.out, rfl⟩), HLs⟩
      · have q1 : decide (1 < ra) = false := decide_eq_false hcond
        clear hcond
        rw [q1]
        go_wp2_with fail
        go_meet
        exact ⟨_, hide (.inl rfl), HL1⟩
  case rest =>
  obtain ⟨a2, HD1, HL2⟩ := hcut
  obtain ⟨b0, b1, b2, b3⟩ := HL2.out.lbox.cells
  go_upto_if 158 with fail
  clear b0 b1 b2 b3
  go_cut [] from 156 to 162 (fun wc => ∃ p2 : Int, Hid (p2 = rp ∨ (1 < rp ∧ p2 = rp - 1)) ∧ Hid (LSs w wc (w.heap.size + 1) gL ⟨ry, ra, rp, rw'⟩ ⟨y2, a2, p2, rw'⟩))
  case first =>
    as_aux_lemma =>
      obtain ⟨b0, b1, b2, b3⟩ := HL2.out.lbox.cells
      have f2 := HL2.out.free 2
      by_cases hcond : 1 < rp
      · have q1 : decide (1 < rp) = true := decide_eq_true hcond
        have q2 : IntKind.i64.wrap (rp - 1) = rp - 1 := by first | (have := HCB.out; dsimp only at this; rw [IntKind.wrap_i64]; omega) | (have := HCB.out; rw [IntKind.wrap_i64]; omega)
        have HLs := hide (HL2.out.set (r3 := ⟨y2, a2, rp - 1, rw'⟩) (by have := HGL.out; omega) (by have := HGL.out; omega) 2 (rp - 1) rfl)
        have HCO := hide hcond
        clear hcond
        rw [q1]
        go_wp2_with fail
        go_meet
        exact ⟨_, hide (.inr ⟨HCO.out, rfl⟩), HLs⟩
      · have q1 : decide (1 < rp) = false := decide_eq_false hcond
        clear hcond
        rw [q1]
        go_wp2_with fail
        go_meet
        exact ⟨_, hide (.inl rfl), HL2⟩
  case rest =>
  obtain ⟨p2, HD2, HL3⟩ := hcut
  obtain ⟨b0, b1, b2, b3⟩ := HL3.out.lbox.cells
  go_upto_if 165 with fail
  clear b0 b1 b2 b3
  go_cut [] from 163 to 169 (fun wc => ∃ w2 : Int, Hid (w2 = rw' ∨ (rw' < 9007199254740992 ∧ w2 = rw' + 1)) ∧ Hid (LSs w wc (w.heap.size + 1) gL ⟨ry, ra, rp, rw'⟩ ⟨y2, a2, p2, w2⟩))
  case first =>
    as_aux_lemma =>
      obtain ⟨b0, b1, b2, b3⟩ := HL3.out.lbox.cells
      have f3 := HL3.out.free 3
      by_cases hcond : rw' < 9007199254740992
      · have q1 : decide (rw' < 9007199254740992) = true := decide_eq_true hcond
        have q2 : IntKind.i64.wrap (rw' + 1) = rw' + 1 := by first | (have := HCB.out; dsimp only at this; rw [IntKind.wrap_i64]; omega) | (have := HCB.out; rw [IntKind.wrap_i64]; omega)
        have HLs := hide (HL3.out.set (r3 := ⟨y2, a2, p2, rw' + 1⟩) (by have := HGL.out; omega) (by have := HGL.out; omega) 3 (rw' + 1) rfl)
        have HCO := hide hcond
        clear hcond
        rw [q1]
        go_wp2_with fail
        go_meet
        exact ⟨_, hide (.inr ⟨HCO.out, rfl⟩), HLs⟩
      · have q1 : decide (rw' < 9007199254740992) = false := decide_eq_false hcond
        clear hcond
        rw [q1]
        go_wp2_with fail
        go_meet
        exact ⟨_, hide (.inl rfl), HL3⟩
  case rest =>
  obtain ⟨w2, HD3, HL4⟩ := hcut
  have HR2 : Hid (chkB ⟨y2, a2, p2, w2⟩ = true ∧ Less ⟨ry, ra, rp, rw'⟩ ⟨y2, a2, p2, w2⟩) := hide (by
    have q0 := HCB.out
    have q1 := HD0.out
    have q2 := HD1.out
    have q3 := HD2.out
    have q4 := HD3.out
    try dsimp only at q0
    refine ⟨?_, ⟨?_, ?_, ?_, ?_⟩⟩
    · unfold chkB
      simp only [Bool.and_eq_true, inB_iff]
      omega
    · show rw' ≤ w2
      omega
    · intro (h : 0 < ry)
      show 0 < y2 ∧ y2 ≤ ry
      omega
    · intro (h : 0 < ra)
      show 0 < a2 ∧ a2 ≤ ra
      omega
    · intro (h : 0 < rp)
      show 0 < p2 ∧ p2 ≤ rp
      omega)
  have HK3 := hide (HG.out ⟨y2, a2, p2, w2⟩ now HR2.out.1 (inB_iff.2 hnb))
  have hck := HMONO.out ⟨y2, a2, p2, w2⟩ HR2.out.2
  generalize C ⟨y2, a2, p2, w2⟩ now = ck at *
  have k2 : decide ((ck : Int) < (cn : Int)) = false := decide_eq_false (by omega)
  have k2' : decide (ck < cn) = false := decide_eq_false (by omega)
  obtain ⟨b0, b1, b2, b3⟩ := HL4.out.lbox.cells
  go_wp2_with fail
  refine (HK3.out _ HL4.out.hw.bel).mono ?_
  rintro e w8 ⟨rfl, hB⟩
  have HX8 := hide (HL4.out.call hB)
  clear hB b0 b1 b2 b3
  obtain ⟨b0, b1, b2, b3⟩ := HX8.out.box.cells
  go_wp2_with (go_at_call 8; with_reducible refine (num_ok _ _).mono ?_; rintro e w' ⟨rfl, rfl⟩)
  refine (HN.out w8 HX8.out.bel).mono ?_
  rintro e w9 ⟨rfl, hB⟩
  have HX9 := hide (HX8.out.call hB)
  clear hB b0 b1 b2 b3
  obtain ⟨b0, b1, b2, b3⟩ := HX9.out.box.cells
  cases B
  ·
    as_aux_lemma =>
      obtain rfl : T = 0 := HT0.out rfl
      have hcc := HNO.out rfl
      have m1 : ((cl : Int) == (cn : Int)) = true := by rw [beq_iff_eq]; omega
      go_wp2_with (go_at_call 8; with_reducible refine (num_ok _ _).mono ?_; rintro e w' ⟨rfl, rfl⟩)
      refine (works_ok _).mono ?_
      rintro e w10 ⟨rfl, hB⟩
      go_wp2
      go_ret
      exact ⟨rfl, (HX9.out.call hB).bel⟩
  ·
    as_aux_lemma =>
      obtain ⟨t1, t2, t3, t4, t5⟩ := HYES.out rfl
      have HT1 := hide (HTT.out T (inB_iff.2 ⟨by omega, t3⟩))
      have HT2 := hide (HTT.out (T - 1) (inB_iff.2 ⟨by omega, by omega⟩))
      rw [t5] at HT2
      have m0 : IntKind.i64.wrap (T - 1) = T - 1 := by rw [IntKind.wrap_i64]; omega
      have m1 : decide (now < T) = true := decide_eq_true t1
      have m5 : ¬ later < T → cn < cl := fun h => by have := HLT.out T (by omega); omega
      generalize C ⟨ry, ra, rp, rw'⟩ T = ca at *
      have m2 : decide ((cn : Int) < (ca : Int)) = true := decide_eq_true (by omega)
      have m2' : decide (cn < ca) = true := decide_eq_true (by omega)
      have HT5 := hide t5
      clear t1 t4 t5
      have finish : ∀ (u : Bool), True := fun _ => trivial
      clear finish
      by_cases hlt : later < T
      · have m3 : decide (later < T) = true := decide_eq_true hlt
        clear hlt m5
        go_wp2_with (go_at_call 8; with_reducible refine (num_ok _ _).mono ?_; rintro e w' ⟨rfl, rfl⟩)
        refine (HT1.out w9 HX9.out.bel).mono ?_
        rintro e w10 ⟨rfl, hB⟩
        have HX10 := hide (HX9.out.call hB)
        clear hB b0 b1 b2 b3
        obtain ⟨b0, b1, b2, b3⟩ := HX10.out.box.cells
        go_wp2_with fail
        refine (HT2.out w10 HX10.out.bel).mono ?_
        rintro e w11 ⟨rfl, hB⟩
        have HX11 := hide (HX10.out.call hB)
        clear hB b0 b1 b2 b3
        go_wp2_with (go_at_call 8; with_reducible refine (num_ok _ _).mono ?_; rintro e w' ⟨rfl, rfl⟩)
        refine (works_ok _).mono ?_
        rintro e w12 ⟨rfl, hB⟩
        go_wp2
        go_ret
        exact ⟨rfl, (HX11.out.call hB).bel⟩
      · have m3 : decide (later < T) = false := decide_eq_false hlt
        have m6 := m5 hlt
        have m4 : decide ((cn : Int) < (cl : Int)) = true := decide_eq_true (by omega)
        have m4' : decide (cn < cl) = true := decide_eq_true m6
        clear hlt m5
        go_wp2_with (go_at_call 8; with_reducible refine (num_ok _ _).mono ?_; rintro e w' ⟨rfl, rfl⟩)
        refine (HT1.out w9 HX9.out.bel).mono ?_
        rintro e w10 ⟨rfl, hB⟩
        have HX10 := hide (HX9.out.call hB)
        clear hB b0 b1 b2 b3
        obtain ⟨b0, b1, b2, b3⟩ := HX10.out.box.cells
        go_wp2_with fail
        refine (HT2.out w10 HX10.out.bel).mono ?_
        rintro e w11 ⟨rfl, hB⟩
        have HX11 := hide (HX10.out.call hB)
        clear hB b0 b1 b2 b3
        go_wp2_with (go_at_call 8; with_reducible refine (num_ok _ _).mono ?_; rintro e w' ⟨rfl, rfl⟩)
        refine (works_ok _).mono ?_
        rintro e w12 ⟨rfl, hB⟩
        go_wp2
        go_ret
        exact ⟨rfl, (HX11.out.call hB).bel⟩

end Go.Proofs.Ytjgdegkjkedfcaa
