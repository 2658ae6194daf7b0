/- Walks of keep.Why, Next, Bytes. -/
import Derived.Test.YtjgdegkjkedfcaaKeepGoes
import Derived.BigQuiet
namespace Go.Proofs.Ytjgdegkjkedfcaa
open Go.RowKit

set_option maxHeartbeats 3200000 in
theorem Why_ok (r : R4) (now : Int) (at0 : Int) (a : Option Addr) (c : Nat) (l : List P3) (w : World) (hn : l.length ≤ 9223372036854775807) (hp : PcsAt w a l) :
    Calls Try.prog 13 #[.agg (ruleV r), .int .i64 now, .int .i64 at0, .slice a l.length c] w fun e w' => e = .returned (.tuple #[.int .i64 (whyN r now at0 l), .int .i64 (whyE r now at0 l)]) ∧ Below w.heap.size w w' := by
  obtain ⟨X, hX⟩ : ∃ X, X = whyN r now at0 l := ⟨_, rfl⟩
  obtain ⟨Y, hY⟩ : ∃ Y, Y = whyE r now at0 l := ⟨_, rfl⟩
  rw [← hX, ← hY]
  unfold whyN at hX
  unfold whyE at hY
  have HB0 := hide ((Below.refl w.heap.size w).alloc (Nat.le_refl _) (.cells (ruleV r) 29))
  have HM := hide (may_ok r now a c l (w.alloc (.cells (ruleV r) 29)) hn (hp.below HB0.out (Nat.le_refl _)))
  have HBX := hide (BoxR.new w r)
  by_cases h0 : mayE r now l = 0
  · obtain ⟨m1, m2, m3, m4⟩ := mayE_ok h0
    rw [if_pos h0] at hY
    have HA := hide (fun (w' : World) (hB : Below w.heap.size w w') => alone_ok r now a c l w' m3 m2 m4 (hp.below hB (Nat.le_refl _)))
    have HC := hide (fun (base g cap : Nat) (w : World) => count_ok base g cap (alsL r now l) w (by rw [alsL_length]; omega))
    have HAL := hide (alsL_length r now l)
    rw [alsL_length] at HC
    by_cases hat : at0 < 0 ∨ (l.length : Int) ≤ at0
    · rw [if_pos hat] at hY
      rw [if_neg (by omega)] at hX
      rw [h0] at HM
      have HX := hide hX
      have HY := hide hY
      obtain ⟨y, ag, p, b⟩ := r
      clear h0 m1 m2 m4 hX hY hp hn HA HC HBX
      generalize l.length = n at *
      unfold ruleV at *
      by_cases h1 : at0 < 0
      · have d1 : decide (at0 < 0) = true := decide_eq_true h1
        clear hat h1
        go_enter Try.func13, Try.ntmps13
        go_wp2_with fail
        refine HM.out.mono ?_
        rintro e w1 ⟨rfl, hB1⟩
        go_wp2
        go_ret2
        exact ⟨by rw [HX.out, HY.out] <;> rfl, HB0.out.trans (hB1.mono HB0.out.size)⟩
      · have d1 : decide (at0 < 0) = false := decide_eq_false h1
        have d2 : decide ((n : Int) ≤ at0) = true := decide_eq_true (by omega)
        clear hat h1
        go_enter Try.func13, Try.ntmps13
        go_wp2_with fail
        refine HM.out.mono ?_
        rintro e w1 ⟨rfl, hB1⟩
        go_wp2
        go_ret2
        exact ⟨by rw [HX.out, HY.out] <;> rfl, HB0.out.trans (hB1.mono HB0.out.size)⟩
    · rw [if_neg hat] at hY
      obtain ⟨i, rfl⟩ := Int.eq_ofNat_of_zero_le (show 0 ≤ at0 by omega)
      rw [if_pos ⟨h0, by omega, by omega⟩, Int.toNat_natCast] at hX
      rw [h0] at HM
      have d1 : decide ((i : Int) < 0) = false := decide_eq_false (by omega)
      have d2 : decide ((l.length : Int) ≤ (i : Int)) = false := decide_eq_false (by omega)
      have i1 : (i : Int) < (l.length : Int) := by omega
      have i2 : i < l.length := by omega
      have HY := hide hY
      obtain ⟨y, ag, p, b⟩ := r
      clear h0 m1 m2 m4 hY hp hn hat
      generalize alsL ⟨y, ag, p, b⟩ now l = als at *
      generalize hcn : cntL als = cn at *
      generalize hx : als.getD i 0 = x at *
      have HCN := hide hcn
      have HXX := hide hx
      clear hcn hx
      have HG := hide (goes_ok x)
      generalize l.length = n at *
      unfold ruleV at *
      generalize goesB x = q at *
      have HX := hide hX
      clear hX
      go_enter Try.func13, Try.ntmps13
      go_wp2_with fail
      refine HM.out.mono ?_
      rintro e w1 ⟨rfl, hB1⟩
      have HB1 := hide (HB0.out.trans (hB1.mono HB0.out.size))
      obtain ⟨b0, b1, b2, b3⟩ := (HBX.out.same hB1).cells
      clear hB1
      go_wp2_with fail
      refine (HA.out w1 HB1.out).mono ?_
      rintro e w2 ⟨g, cap, rfl, hw, hB2⟩
      have HB2 := hide (HB1.out.trans (hB2.mono HB1.out.size))
      have hcl := hw.cell i (by rw [HAL.out]; exact i2)
      rw [HXX.out] at hcl
      have HW := hide hw
      clear hw hB2 b0 b1 b2 b3
      go_wp2_with fail
      refine (HG.out w2).mono ?_
      rintro e w3 ⟨rfl, rfl⟩
      cases q
      · have HV := hide (show X = x by rw [HX.out]; simp)
        go_wp2
        go_ret2
        exact ⟨by rw [HV.out, HY.out] <;> rfl, HB2.out⟩
      · by_cases hci : (cn : Int) ≤ (i : Int)
        · have d3 : decide ((cn : Int) ≤ (i : Int)) = true := decide_eq_true hci
          have d3' : decide (cn ≤ i) = true := decide_eq_true (by omega)
          have HV := hide (show X = 6 by rw [HX.out]; rw [if_pos ⟨rfl, hci⟩])
          clear hci
          go_wp2_with fail
          refine (HC.out _ g cap w2 HW.out).mono ?_
          rintro e w3 ⟨rfl, rfl⟩
          go_wp2
          go_ret2
          exact ⟨by rw [HV.out, HY.out] <;> rfl, HB2.out⟩
        · have d3 : decide ((cn : Int) ≤ (i : Int)) = false := decide_eq_false hci
          have d3' : decide (cn ≤ i) = false := decide_eq_false (by omega)
          have HV := hide (show X = x by rw [HX.out]; rw [if_neg (fun h => hci h.2)])
          clear hci
          go_wp2_with fail
          refine (HC.out _ g cap w2 HW.out).mono ?_
          rintro e w3 ⟨rfl, rfl⟩
          go_wp2
          go_ret2
          exact ⟨by rw [HV.out, HY.out] <;> rfl, HB2.out⟩
  · rw [if_neg h0] at hY
    rw [if_neg (fun h => h0 h.1)] at hX
    subst hX
    subst hY
    have hne : (mayE r now l != 0) = true := by simpa using h0
    generalize mayE r now l = E at *
    clear h0 hp hn
    obtain ⟨y, ag, p, b⟩ := r
    generalize l.length = n at *
    unfold ruleV at *
    go_enter Try.func13, Try.ntmps13
    go_wp2_with fail
    refine HM.out.mono ?_
    rintro e w1 ⟨rfl, hB1⟩
    go_wp2
    go_ret2
    exact ⟨rfl, HB0.out.trans (hB1.mono HB0.out.size)⟩

theorem nextB_no {r : R4} {now : Int} {l : List P3} (h : mayE r now l ≠ 0 ∨ cntL (alsL r now l) = l.length ∨ (alsL r now l).getD (cntL (alsL r now l)) 0 ≠ 0 ∨ r.a = 0 ∨ 9007199254740992 < (l.getD (cntL (alsL r now l)) default).t + r.a + 1) : nextB r now l = false ∧ nextT r now l = 0 := by
  have hb : nextB r now l = false := by
    unfold nextB
    rcases h with h | h | h | h | h
    · rw [decide_eq_false h]; rfl
    · rw [decide_eq_false (p := cntL (alsL r now l) ≠ l.length) (fun h2 => h2 h)]; simp
    · rw [decide_eq_false h]; simp
    · rw [decide_eq_false (p := r.a ≠ 0) (fun h2 => h2 h)]; simp
    · rw [decide_eq_false (p := (l.getD (cntL (alsL r now l)) default).t + r.a + 1 ≤ 9007199254740992) (by omega)]; simp
  exact ⟨hb, by unfold nextT; rw [hb]; rfl⟩
theorem nextB_yes {r : R4} {now : Int} {l : List P3} (h0 : mayE r now l = 0) (h1 : cntL (alsL r now l) ≠ l.length) (h2 : (alsL r now l).getD (cntL (alsL r now l)) 0 = 0) (h3 : r.a ≠ 0) (h4 : (l.getD (cntL (alsL r now l)) default).t + r.a + 1 ≤ 9007199254740992) :
    nextB r now l = true ∧ nextT r now l = (l.getD (cntL (alsL r now l)) default).t + r.a + 1 := by
  have hb : nextB r now l = true := by
    unfold nextB
    rw [decide_eq_true h0, decide_eq_true h1, decide_eq_true h2, decide_eq_true h3, decide_eq_true h4]
    rfl
  exact ⟨hb, by unfold nextT; rw [hb]; rfl⟩

set_option maxHeartbeats 3200000 in
theorem Next_ok (r : R4) (now : Int) (a : Option Addr) (c : Nat) (l : List P3) (w : World) (hn : l.length ≤ 9223372036854775807) (hp : PcsAt w a l) :
    Calls Try.prog 14 #[.agg (ruleV r), .int .i64 now, .slice a l.length c] w fun e w' => e = .returned (.tuple #[.int .i64 (nextT r now l), .bool (nextB r now l), .int .i64 (mayE r now l)]) ∧ Below w.heap.size w w' := by
  obtain ⟨X, hX⟩ : ∃ X, X = nextT r now l := ⟨_, rfl⟩
  obtain ⟨Y, hY⟩ : ∃ Y, Y = nextB r now l := ⟨_, rfl⟩
  rw [← hX, ← hY]
  have HB0 := hide ((Below.refl w.heap.size w).alloc (Nat.le_refl _) (.cells (ruleV r) 29))
  have HM := hide (may_ok r now a c l (w.alloc (.cells (ruleV r) 29)) hn (hp.below HB0.out (Nat.le_refl _)))
  have HBX := hide (BoxR.new w r)
  by_cases h0 : mayE r now l = 0
  · obtain ⟨m1, m2, m3, m4⟩ := mayE_ok h0
    rw [h0] at HM ⊢
    have HA := hide (fun (w' : World) (hB : Below w.heap.size w w') => alone_ok r now a c l w' m3 m2 m4 (hp.below hB (Nat.le_refl _)))
    have HC := hide (fun (base g cap : Nat) (w : World) => count_ok base g cap (alsL r now l) w (by rw [alsL_length]; omega))
    have HAL := hide (alsL_length r now l)
    rw [alsL_length] at HC
    have hcl := cntL_le (alsL r now l)
    rw [alsL_length] at hcl
    have hno := nextB_no (r := r) (now := now) (l := l)
    have hyes := nextB_yes (r := r) (now := now) (l := l) h0
    rw [← hX, ← hY] at hno hyes
    have hab : 0 ≤ r.a ∧ r.a ≤ 9007199254740992 := by
      unfold chkB at m1
      simp only [Bool.and_eq_true, inB_iff] at m1
      exact m1.2.1
    have hpb := ordFrom_b m4
    have HP := hide hp
    obtain ⟨y, ag, p, b⟩ := r
    dsimp only at hab hno hyes
    clear hX hY m1 m2 m4 hp hn h0
    generalize alsL ⟨y, ag, p, b⟩ now l = als at *
    generalize hcn : cntL als = cn at *
    generalize hx : als.getD cn 0 = x at *
    have HXX := hide hx
    have HNO := hide hno
    have HYES := hide hyes
    have HPB := hide hpb
    clear hcn hx hno hyes hpb
    by_cases hlen : cn = l.length
    · obtain ⟨hv1, hv2⟩ := HNO.out (.inr (.inl hlen))
      subst hv1 hv2
      have d1 : ((cn : Int) == (l.length : Int)) = true := by rw [beq_iff_eq]; omega
      generalize l.length = n at *
      unfold ruleV at *
      go_enter Try.func14, Try.ntmps14
      go_wp2_with fail
      refine HM.out.mono ?_
      rintro e w1 ⟨rfl, hB1⟩
      have HB1 := hide (HB0.out.trans (hB1.mono HB0.out.size))
      obtain ⟨b0, b1, b2, b3⟩ := (HBX.out.same hB1).cells
      clear hB1
      go_wp2_with fail
      refine (HA.out w1 HB1.out).mono ?_
      rintro e w2 ⟨g, cap, rfl, hw, hB2⟩
      have HB2 := hide (HB1.out.trans (hB2.mono HB1.out.size))
      have HW := hide hw
      clear hw hB2 b0 b1 b2 b3
      go_wp2_with fail
      refine (HC.out _ g cap w2 HW.out).mono ?_
      rintro e w3 ⟨rfl, rfl⟩
      go_wp2
      go_ret3
      exact ⟨rfl, HB2.out⟩
    · have hlt : cn < l.length := by omega
      have d1 : ((cn : Int) == (l.length : Int)) = false := by rw [beq_eq_false_iff_ne]; omega
      have i1 : (cn : Int) < (l.length : Int) := by omega
      have hq := HPB.out (l.getD cn default) (by simp [List.getD_eq_getElem?_getD, hlt])
      have HLT := hide hlt
      generalize hpc : l.getD cn default = pc at *
      have HPC := hide hpc
      clear hpc
      obtain ⟨pb, py, pt⟩ := pc
      dsimp only at hq HNO HYES
      have hw1 : IntKind.i64.wrap (pt + ag) = pt + ag := by rw [IntKind.wrap_i64]; omega
      have hw2 : IntKind.i64.wrap (pt + ag + 1) = pt + ag + 1 := by rw [IntKind.wrap_i64]; omega
      have HLEN := hide hlen
      clear hlt hlen hcl
      by_cases hx0 : x = 0
      · subst hx0
        by_cases ha0 : ag = 0
        · subst ha0
          obtain ⟨hv1, hv2⟩ := HNO.out (.inr (.inr (.inr (.inl rfl))))
          subst hv1 hv2
          generalize hnn : l.length = n at *
          have HNN := hide hnn
          clear hnn
          unfold ruleV at *
          go_enter Try.func14, Try.ntmps14
          go_wp2_with fail
          refine HM.out.mono ?_
          rintro e w1 ⟨rfl, hB1⟩
          have HB1 := hide (HB0.out.trans (hB1.mono HB0.out.size))
          have HBX1 := hide (HBX.out.same hB1)
          obtain ⟨b0, b1, b2, b3⟩ := HBX1.out.cells
          clear hB1
          go_wp2_with fail
          refine (HA.out w1 HB1.out).mono ?_
          rintro e w2 ⟨g, cap, rfl, hw, hB2⟩
          have HB2 := hide (HB1.out.trans (hB2.mono HB1.out.size))
          have HW := hide hw
          have hcl := hw.cell cn (by rw [HAL.out]; exact HLT.out)
          rw [HXX.out] at hcl
          clear b0 b1 b2 b3
          obtain ⟨b0, b1, b2, b3⟩ := (HBX1.out.same hB2).cells
          clear hw hB2
          go_wp2_with fail
          refine (HC.out _ g cap w2 HW.out).mono ?_
          rintro e w3 ⟨rfl, rfl⟩
          go_wp2
          go_ret3
          exact ⟨rfl, HB2.out⟩
        · have d2 : (ag == 0) = false := by rw [beq_eq_false_iff_ne]; exact ha0
          have HAZ := hide ha0
          clear ha0
          generalize hnn : l.length = n at *
          have HNN := hide hnn
          clear hnn
          unfold ruleV at *
          by_cases hbig : 9007199254740992 < pt + ag + 1
          · have d3 : decide (9007199254740992 < pt + ag + 1) = true := decide_eq_true hbig
            obtain ⟨hv1, hv2⟩ := HNO.out (.inr (.inr (.inr (.inr (by omega)))))
            subst hv1 hv2
            clear hbig
            go_enter Try.func14, Try.ntmps14
            go_wp2_with fail
            refine HM.out.mono ?_
            rintro e w1 ⟨rfl, hB1⟩
            have HB1 := hide (HB0.out.trans (hB1.mono HB0.out.size))
            have HBX1 := hide (HBX.out.same hB1)
            obtain ⟨b0, b1, b2, b3⟩ := HBX1.out.cells
            clear hB1
            go_wp2_with fail
            refine (HA.out w1 HB1.out).mono ?_
            rintro e w2 ⟨g, cap, rfl, hw, hB2⟩
            have HB2 := hide (HB1.out.trans (hB2.mono HB1.out.size))
            have HW := hide hw
            have hcl := hw.cell cn (by rw [HAL.out]; exact HLT.out)
            rw [HXX.out] at hcl
            clear b0 b1 b2 b3
            obtain ⟨b0, b1, b2, b3⟩ := (HBX1.out.same hB2).cells
            obtain ⟨blk, off, rfl, p0, p1, p2⟩ := HP.out.below HB2.out (Nat.le_refl _) cn (by rw [HNN.out]; exact HLT.out)
            rw [HPC.out] at p0 p1 p2
            dsimp only at p0 p1 p2
            clear hw hB2
            go_wp2_with fail
            refine (HC.out _ g cap w2 HW.out).mono ?_
            rintro e w3 ⟨rfl, rfl⟩
            go_wp2_with fail
            go_quiet (fail)
            have HB3 := hide (belowDrewN HB2.out nq)
            go_wp2
            go_ret3
            exact ⟨rfl, HB3.out⟩
          · have d3 : decide (9007199254740992 < pt + ag + 1) = false := decide_eq_false hbig
            obtain ⟨hv1, hv2⟩ := HYES.out HLEN.out rfl HAZ.out (by omega)
            subst hv1 hv2
            clear hbig
            go_enter Try.func14, Try.ntmps14
            go_wp2_with fail
            refine HM.out.mono ?_
            rintro e w1 ⟨rfl, hB1⟩
            have HB1 := hide (HB0.out.trans (hB1.mono HB0.out.size))
            have HBX1 := hide (HBX.out.same hB1)
            obtain ⟨b0, b1, b2, b3⟩ := HBX1.out.cells
            clear hB1
            go_wp2_with fail
            refine (HA.out w1 HB1.out).mono ?_
            rintro e w2 ⟨g, cap, rfl, hw, hB2⟩
            have HB2 := hide (HB1.out.trans (hB2.mono HB1.out.size))
            have HW := hide hw
            have hcl := hw.cell cn (by rw [HAL.out]; exact HLT.out)
            rw [HXX.out] at hcl
            clear b0 b1 b2 b3
            obtain ⟨b0, b1, b2, b3⟩ := (HBX1.out.same hB2).cells
            obtain ⟨blk, off, rfl, p0, p1, p2⟩ := HP.out.below HB2.out (Nat.le_refl _) cn (by rw [HNN.out]; exact HLT.out)
            rw [HPC.out] at p0 p1 p2
            dsimp only at p0 p1 p2
            clear hw hB2
            go_wp2_with fail
            refine (HC.out _ g cap w2 HW.out).mono ?_
            rintro e w3 ⟨rfl, rfl⟩
            go_wp2_with fail
            go_quiet (fail)
            have HB3 := hide (belowDrewN HB2.out nq)
            go_wp2
            go_ret3
            exact ⟨rfl, HB3.out⟩
      · obtain ⟨hv1, hv2⟩ := HNO.out (.inr (.inr (.inl hx0)))
        subst hv1 hv2
        have d2 : (x != 0) = true := by simpa using hx0
        clear hx0
        generalize hnn : l.length = n at *
        have HNN := hide hnn
        clear hnn
        unfold ruleV at *
        go_enter Try.func14, Try.ntmps14
        go_wp2_with fail
        refine HM.out.mono ?_
        rintro e w1 ⟨rfl, hB1⟩
        have HB1 := hide (HB0.out.trans (hB1.mono HB0.out.size))
        obtain ⟨b0, b1, b2, b3⟩ := (HBX.out.same hB1).cells
        clear hB1
        go_wp2_with fail
        refine (HA.out w1 HB1.out).mono ?_
        rintro e w2 ⟨g, cap, rfl, hw, hB2⟩
        have HB2 := hide (HB1.out.trans (hB2.mono HB1.out.size))
        have HW := hide hw
        have hcl := hw.cell cn (by rw [HAL.out]; exact HLT.out)
        rw [HXX.out] at hcl
        clear hw hB2 b0 b1 b2 b3
        go_wp2_with fail
        refine (HC.out _ g cap w2 HW.out).mono ?_
        rintro e w3 ⟨rfl, rfl⟩
        go_wp2
        go_ret3
        exact ⟨rfl, HB2.out⟩
  · have hno := nextB_no (r := r) (now := now) (l := l) (.inl h0)
    rw [← hX, ← hY] at hno
    obtain ⟨hv1, hv2⟩ := hno
    subst hv1 hv2
    have hne : (mayE r now l != 0) = true := by simpa using h0
    clear hX hY
    generalize mayE r now l = E at *
    clear h0 hp hn
    obtain ⟨y, ag, p, b⟩ := r
    generalize l.length = n at *
    unfold ruleV at *
    go_enter Try.func14, Try.ntmps14
    go_wp2_with fail
    refine HM.out.mono ?_
    rintro e w1 ⟨rfl, hB1⟩
    go_wp2
    go_ret3
    exact ⟨rfl, HB0.out.trans (hB1.mono HB0.out.size)⟩
end Go.Proofs.Ytjgdegkjkedfcaa
