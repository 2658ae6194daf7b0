/- The walk of millraceref13.Next. -/
import Derived.Test.YtjgdegkjkedfcaaKeepRefGoes
import Derived.Test.YtjgdegkjkedfcaaKeepPlain2
namespace Go.Proofs.Ytjgdegkjkedfcaa
open Go.RowKit

/-- the best so far -/
structure NInv (B : Bool) (T : Int) (cn i : Nat) (best : Int) (ok : Bool) : Prop where
  no : B = false → ok = false ∧ best = 0
  low : B = true → ok = true → T ≤ best
  hit : B = true → cn < i → ok = true ∧ best = T

set_option maxHeartbeats 6400000 in
set_option maxRecDepth 100000 in
theorem refNext_ok (r : R4) (now : Int) (a : Option Addr) (c : Nat) (l : List P3) (w : World) (h0 : mayE r now l = 0) (hn60 : l.length ≤ 60) (hc : l.length ≤ c) (hp : PcsAt w a l) :
    Calls Try.prog 19 #[.agg (ruleV r), .int .i64 now, .slice a l.length c] w fun e w' => e = .returned (.tuple #[.int .i64 (nextT r now l), .bool (nextB r now l)]) ∧ Below w.heap.size w w' := by
  obtain ⟨hck, hnow, hn, hord⟩ := mayE_ok h0
  have hpb := ordFrom_b hord
  have hcb := hck
  unfold chkB at hcb
  simp only [Bool.and_eq_true, inB_iff] at hcb
  have hnb := inB_iff.1 hnow
  have HGO := hide (fun (t : Int) (ht : inB t 9007199254740992 = true) (w' : World) (hB : Below w.heap.size w w') => refGoes_ok r t a c l w' hn hc ht hpb (hp.below hB (Nat.le_refl _)))
  have HMEM : Hid (∀ k, k < l.length → 0 ≤ (l.getD k default).t ∧ (l.getD k default).t ≤ 9007199254740992) := hide (fun k hk => (hpb _ (by simp [List.getD_eq_getElem?_getD, hk])).2.2)
  have HNO := hide (fun (hb : nextB r now l = false) t (h1 : now ≤ t) (h2 : t ≤ 9007199254740992) => next_no (r := r) h0 hb h1 h2)
  have HYES := hide (fun hb => next_yes (r := r) h0 hb)
  have HMN := hide (fun t1 t2 (h : t1 ≤ t2) => cnt_mono (Less.refl r) h l)
  have HZ : Hid (r.a = 0 → nextB r now l = false ∧ nextT r now l = 0) := hide (fun h => nextB_no (.inr (.inr (.inr (.inl h)))))
  have HF : Hid (nextB r now l = false → nextT r now l = 0) := hide (fun h => by unfold nextT; rw [h]; rfl)
  have HT : Hid (nextB r now l = true → nextT r now l = (l.getD (cntL (alsL r now l)) default).t + r.a + 1) := hide (fun h => by unfold nextT; rw [h]; rfl)
  have HLN : Hid (nextB r now l = true → cntL (alsL r now l) < l.length) := hide (fun h => by
    by_cases hl : 0 < l.length
    · exact cnt_lt_len r now l hl
    · have e : l = [] := List.length_eq_zero_iff.1 (by omega)
      subst e
      exact absurd h (by rw [(nextB_no (.inr (.inl (by simp [alsL, cntL])))).1]; simp))
  obtain ⟨C, hC⟩ : ∃ C : Int → Nat, C = fun t => cntL (alsL r t l) := ⟨_, rfl⟩
  have eC : ∀ t, cntL (alsL r t l) = C t := fun t => by rw [hC]
  simp only [eC] at HGO HNO HYES HMN HT HLN
  obtain ⟨T, hT⟩ : ∃ T, T = nextT r now l := ⟨_, rfl⟩
  obtain ⟨B, hB⟩ : ∃ B, B = nextB r now l := ⟨_, rfl⟩
  rw [← hT, ← hB] at HZ HF HT ⊢
  rw [← hB] at HNO HLN
  rw [← hT, ← hB] at HYES
  have HP := hide hp
  have HCB := hide hcb
  clear hC eC hT hB h0 hck hnow hord hpb hp hcb
  generalize hcn : C now = cn at *
  have HCN := hide hcn
  obtain ⟨ry, ra, rp, rw'⟩ := r
  dsimp only at HZ HT HCB
  have HX0 := hide (RSt.new w ⟨ry, ra, rp, rw'⟩)
  unfold ruleV at *
  generalize hnn : l.length = n at *
  have HNN := hide hnn
  clear hnn hcn
  have hra := HCB.out.2.1
  obtain ⟨x0, x1, x2, x3⟩ := HX0.out.box.cells
  go_enter Try.func19, Try.ntmps19
  go_wp2_with fail
  refine (HGO.out now (inB_iff.2 hnb) _ HX0.out.bel).mono ?_
  rw [HCN.out]
  rintro e w1 ⟨rfl, hB⟩
  have HX1 := hide (HX0.out.call hB)
  clear hB x0 x1 x2 x3
  obtain ⟨x0, x1, x2, x3⟩ := HX1.out.box.cells
  by_cases hz : ra = 0
  · have HE := hide (HZ.out hz)
    have q1 : (ra == 0) = true := by rw [beq_iff_eq]; exact hz
    clear hz
    go_wp2_with fail
    go_ret2
    exact ⟨by rw [HE.out.1, HE.out.2] <;> rfl, HX1.out.bel⟩
  have q1 : (ra == 0) = false := beq_eq_false_iff_ne.2 hz
  clear hz
  have HI0 : Hid (NInv B T cn 0 0 false) := hide ⟨fun _ => ⟨rfl, rfl⟩, fun _ h => (by cases h), fun _ h => (by omega)⟩
  go_wp2_with fail
  clear x0 x1 x2 x3 q1
  go_loopw [9, 10, 11] (fun b k i wr => ∃ (j : Nat) (best : Int) (ok : Bool), j ≤ n ∧ b = .int .i64 best ∧ k = .bool ok ∧ i = .int .i64 j ∧ Hid (NInv B T cn j best ok) ∧ Hid (RSt w wr w.heap.size ⟨ry, ra, rp, rw'⟩)) (fun _ _ i _ => n - (intOf i).toNat)
  case atStart => exact ⟨0, 0, false, by omega, rfl, rfl, rfl, HI0, HX1⟩
  case round =>
    obtain ⟨j, best, ok, hj, rfl, rfl, rfl, HI, HX⟩ := hrel
    by_cases hlt : j < n
    · have d1 : decide ((j : Int) < (n : Int)) = true := decide_eq_true (by omega)
      have d1' : decide (j < n) = true := decide_eq_true hlt
      have hx1 : (j : Int) < (n : Int) := by omega
      have hm := HMEM.out j hlt
      obtain ⟨blk, off, rfl, c0, c1, c2⟩ := (HP.out.below HX.out.bel (Nat.le_refl _)) j (by rw [HNN.out]; exact hlt)
      have HTJ : Hid (B = true → j = cn → T = (l.getD j default).t + ra + 1) := hide (fun hb e => by rw [e]; exact HT.out hb)
      generalize l.getD j default = pc at *
      obtain ⟨pb, py, t0⟩ := pc
      dsimp only at c0 c1 c2 hm HTJ
      have w1' : IntKind.i64.wrap (t0 + ra) = t0 + ra := by rw [IntKind.wrap_i64]; omega
      have w2' : IntKind.i64.wrap (t0 + ra + 1) = t0 + ra + 1 := by rw [IntKind.wrap_i64]; omega
      have HJ := hide hlt
      have HXD := hide (fun nq => HX.out.drewN nq)
      obtain ⟨x0, x1, x2, x3⟩ := HX.out.box.cells
      have HTP : Hid (0 ≤ t0 + ra + 1) := hide (by omega)
      go_upto_region 8 with fail
      go_quiet (fail)
      have HX2 := hide (HXD.out nq)
      clear x0 x1 x2 x3 c0 c1 c2 d1 d1' HXD
      obtain ⟨x0, x1, x2, x3⟩ := HX2.out.box.cells
      generalize t0 + ra + 1 = t at *
      by_cases h1 : now < t
      · have e1 : decide (now < t) = true := decide_eq_true h1
        by_cases h2 : t ≤ 9007199254740992
        · have e2 : decide (t ≤ 9007199254740992) = true := decide_eq_true h2
          have HCT := hide (HGO.out t (inB_iff.2 ⟨HTP.out, h2⟩) _ HX2.out.bel)
          have HN1 : Hid (B = false → C t = cn) := hide (fun hb => HNO.out hb t (by omega) h2)
          have HN2 : Hid (B = true → cn < C t → T ≤ t) := hide (fun hb hct => by
            obtain ⟨_, _, _, _, t5⟩ := HYES.out hb
            by_cases hq : T ≤ t
            · exact hq
            · have := HMN.out t (T - 1) (by omega)
              omega)
          have HN3 : Hid (B = true → j = cn → cn < C t) := hide (fun hb e => by
            obtain ⟨_, _, _, t4, _⟩ := HYES.out hb
            rw [← HTJ.out hb e]
            exact t4)
          generalize C t = ct at *
          have SKIP : Hid ((ct ≤ cn ∨ (ok = true ∧ best ≤ t)) → NInv B T cn (j + 1) best ok) := hide (fun hs => ⟨HI.out.no, HI.out.low, fun hb hlt' => by
            by_cases e : j = cn
            · have := HN3.out hb e
              have hT := HTJ.out hb e
              rcases hs with hs | ⟨ho, hs⟩
              · omega
              · have := HI.out.low hb ho
                exact ⟨ho, by omega⟩
            · exact HI.out.hit hb (by omega)⟩)
          have TAKE : Hid (cn < ct → (ok = false ∨ t < best) → NInv B T cn (j + 1) t true) := hide (fun hs ho => ⟨fun hb => by have := HN1.out hb; omega, fun hb _ => HN2.out hb hs, fun hb hlt' => ⟨rfl, by
            have hTt := HN2.out hb hs
            by_cases e : j = cn
            · exact (HTJ.out hb e).symm
            · obtain ⟨g1, g2⟩ := HI.out.hit hb (by omega)
              rcases ho with ho | ho
              · rw [ho] at g1; cases g1
              · omega⟩⟩)
          clear h1 h2 HGO HNO HYES HMN
          cases ok
          · go_wp2_with fail
            refine HCT.out.mono ?_
            rintro e w2 ⟨rfl, hB⟩
            have HX3 := hide (HX2.out.call hB)
            clear hB x0 x1 x2 x3
            by_cases hct : cn < ct
            · have e3 : decide ((cn : Int) < (ct : Int)) = true := decide_eq_true (by omega)
              have e3' : decide (cn < ct) = true := decide_eq_true hct
              have HT9 := hide (TAKE.out hct (.inl (by simp)))
              clear hct
              go_wp2_with fail
              go_roundw
              case rel => exact ⟨j + 1, _, _, by have := HJ.out; omega, rfl, rfl, by go_num, HT9, HX3⟩
              case measure => have := HJ.out; simp [intOf] <;> omega
            · have e3 : decide ((cn : Int) < (ct : Int)) = false := decide_eq_false (by omega)
              have e3' : decide (cn < ct) = false := decide_eq_false hct
              have HT9 := hide (SKIP.out (.inl (by omega)))
              clear hct
              go_wp2_with fail
              go_roundw
              case rel => exact ⟨j + 1, _, _, by have := HJ.out; omega, rfl, rfl, by go_num, HT9, HX3⟩
              case measure => have := HJ.out; simp [intOf] <;> omega
          · by_cases h3 : t < best
            · have e4 : decide (t < best) = true := decide_eq_true h3
              go_wp2_with fail
              refine HCT.out.mono ?_
              rintro e w2 ⟨rfl, hB⟩
              have HX3 := hide (HX2.out.call hB)
              clear hB x0 x1 x2 x3
              by_cases hct : cn < ct
              · have e3 : decide ((cn : Int) < (ct : Int)) = true := decide_eq_true (by omega)
                have e3' : decide (cn < ct) = true := decide_eq_true hct
                have HT9 := hide (TAKE.out hct (.inr h3))
                clear hct h3
                go_wp2_with fail
                go_roundw
                case rel => exact ⟨j + 1, _, _, by have := HJ.out; omega, rfl, rfl, by go_num, HT9, HX3⟩
                case measure => have := HJ.out; simp [intOf] <;> omega
              · have e3 : decide ((cn : Int) < (ct : Int)) = false := decide_eq_false (by omega)
                have e3' : decide (cn < ct) = false := decide_eq_false hct
                have HT9 := hide (SKIP.out (.inl (by omega)))
                clear hct h3
                go_wp2_with fail
                go_roundw
                case rel => exact ⟨j + 1, _, _, by have := HJ.out; omega, rfl, rfl, by go_num, HT9, HX3⟩
                case measure => have := HJ.out; simp [intOf] <;> omega
            · have e4 : decide (t < best) = false := decide_eq_false h3
              have HT9 := hide (SKIP.out (.inr ⟨by simp, by omega⟩))
              clear h3
              go_wp2_with fail
              go_roundw
              case rel => exact ⟨j + 1, _, _, by have := HJ.out; omega, rfl, rfl, by go_num, HT9, HX2⟩
              case measure => have := HJ.out; simp [intOf] <;> omega
        · have e2 : decide (t ≤ 9007199254740992) = false := decide_eq_false h2
          have HT9 : Hid (NInv B T cn (j + 1) best ok) := hide ⟨HI.out.no, HI.out.low, fun hb hlt' => by
            by_cases e : j = cn
            · obtain ⟨_, _, t3, _, _⟩ := HYES.out hb
              have := HTJ.out hb e
              omega
            · exact HI.out.hit hb (by omega)⟩
          clear h1 h2
          go_wp2_with fail
          go_roundw
          case rel => exact ⟨j + 1, _, _, by have := HJ.out; omega, rfl, rfl, by go_num, HT9, HX2⟩
          case measure => have := HJ.out; simp [intOf] <;> omega
      · have e1 : decide (now < t) = false := decide_eq_false h1
        have HT9 : Hid (NInv B T cn (j + 1) best ok) := hide ⟨HI.out.no, HI.out.low, fun hb hlt' => by
          by_cases e : j = cn
          · obtain ⟨t1, _, _, _, _⟩ := HYES.out hb
            have := HTJ.out hb e
            omega
          · exact HI.out.hit hb (by omega)⟩
        clear h1
        go_wp2_with fail
        go_roundw
        case rel => exact ⟨j + 1, _, _, by have := HJ.out; omega, rfl, rfl, by go_num, HT9, HX2⟩
        case measure => have := HJ.out; simp [intOf] <;> omega
    · obtain rfl : j = n := by omega
      have d1 : decide ((j : Int) < (j : Int)) = false := decide_eq_false (by omega)
      have d1' : decide (j < j) = false := decide_eq_false (by omega)
      have HE : Hid (ok = B ∧ best = T) := hide (by
        cases hb : B
        · obtain ⟨g1, g2⟩ := HI.out.no hb
          exact ⟨g1, by rw [g2, HF.out hb]⟩
        · exact HI.out.hit hb (HLN.out hb))
      go_wp2
      go_ret2
      exact ⟨by rw [← HE.out.1, ← HE.out.2] <;> rfl, HX.out.bel⟩
end Go.Proofs.Ytjgdegkjkedfcaa
