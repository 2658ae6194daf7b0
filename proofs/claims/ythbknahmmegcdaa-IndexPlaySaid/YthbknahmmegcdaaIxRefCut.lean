/- The reference's Cut. -/
import Derived.Test.YthbknahmmegcdaaIxRefOps
import Derived.Test.YthbknahmmegcdaaIxWF
namespace Go.Proofs.Ythbknahmmegcdaa
open Go.RowKit Go.Shelf
set_option linter.unusedVariables false

theorem firstT_first (p : S2 → Bool) : ∀ (l : List S2) (k : Nat), k ≤ l.length → (∀ a, a < k → p (l.getD a default) = false) → (k = l.length ∨ p (l.getD k default) = true) → k = firstT p l
  | [], k, h, _, _ => by simp at h; exact h
  | s :: l, k, h, h1, h2 => by
    unfold firstT
    cases k with
    | zero =>
      rcases h2 with h2 | h2
      · simp at h2
      · rw [if_pos (by simpa using h2)]
    | succ k =>
      have h0 := h1 0 (by omega)
      rw [if_neg (by rw [show p s = false by simpa using h0]; simp)]
      rw [← firstT_first p l k (by simpa using h) (fun a ha => by simpa using h1 (a + 1) (by omega)) (h2.imp (fun h => by simpa using h) (fun h => by simpa using h))]

set_option maxRecDepth 100000 in
set_option maxHeartbeats 4000000 in
theorem refCut_ok (x : Int) {w : World} {base gr : Nat} {st : Int} {l : List S2} {v : Value} (h : RefO w base gr st l v) (hn : l.length ≤ 100000) (hbase : base ≤ w.heap.size) :
    Calls Try.prog 25 #[.pointer (some ⟨gr, 0, none⟩), .int .i64 x] w fun e w' =>
      ∃ v', e = .returned (.int .i64 ((l.length : Int) - (cutN x l : Nat))) ∧ RefO w' base gr st (l.take (cutN x l)) v' ∧ KeptX w w' gr none ∧ (v'.ownBlock = v.ownBlock ∨ v'.ownBlock = none ∨ ∃ r, v'.ownBlock = some r ∧ w.heap.size ≤ r) := by
  obtain ⟨i0, hi, hz0, hz1, hz2⟩ := info_spot
  have HX := hide h
  obtain ⟨ao, cap, rfl, hcap, hnil, hsp, hbo⟩ := h.own.any
  have c1 : w.cell? ⟨gr, 1, none⟩ = some (.slice ao l.length cap) := by rw [cell_of_row _ _ _ _ _ _ h.box]; rfl
  have f1 : w.frozen? ⟨gr, 1, none⟩ = false := frozen_of_row _ _ _ _ _ h.box
  have HSP := hide hsp
  have HNIL := hide hnil
  have H0 : Hid (w.ownsRow w.heap.size 31 2 (.slice none 0 0) 0 []) := hide (World.ownsRow_nil _ _ _ _)
  clear h hnil hsp hbo
  obtain ⟨K, hK⟩ : ∃ K, K = cutN x l := ⟨_, rfl⟩
  rw [← hK]
  have HKK := hide hK
  clear hK
  go_enter Try.func25, Try.ntmps25
  go_wp2_with fail
  go_loopw [5] (fun i wr => ∃ k : Nat, k ≤ l.length ∧ i = .int .i64 (k : Nat) ∧ Hid (∀ j, j < k → (l.getD j default).p < x) ∧ wr = w) (fun i _ => l.length - (intOf i).toNat)
  case atStart => exact ⟨0, Nat.zero_le _, rfl, hide (fun j h => by omega), rfl⟩
  case round =>
    obtain ⟨k, hk, rfl, HJ, rfl⟩ := hrel
    by_cases hgo : k < l.length ∧ (l.getD k default).p < x
    · as_aux_lemma =>
        obtain ⟨hlt, hx⟩ := hgo
        obtain ⟨rb, of, rfl, m0, m1⟩ := HSP.out k hlt
        have d1 : decide ((k : Int) < (l.length : Int)) = true := decide_eq_true (by omega)
        have d1' : decide (k < l.length) = true := decide_eq_true hlt
        have hi1 : (k : Int) < (l.length : Int) := by omega
        have HJ2 : Hid (∀ j, j < k + 1 → (l.getD j default).p < x) := hide (fun j h => by
          by_cases e : j = k
          · rw [e]; exact hx
          · exact HJ.out j (by omega))
        have HLT := hide hlt
        have hw1 : IntKind.i64.wrap ((k : Int) + 1) = (k : Int) + 1 := by rw [IntKind.wrap_i64]; omega
        clear HJ H0
        generalize (l.getD k default).o = so at *
        generalize (l.getD k default).p = sp at *
        have dx : decide (sp < x) = true := decide_eq_true hx
        generalize l.length = n at *
        go_wp2_with fail
        go_roundw
        case rel => exact ⟨k + 1, HLT.out, by go_num, HJ2, trivial⟩
        case measure => have := HLT.out; simp [intOf]; omega
    · have hF : k = cutN x l := firstT_first _ l k hk (fun a ha => by
        have := HJ.out a ha
        simp only [decide_eq_false_iff_not]
        omega) (by
        by_cases e : k = l.length
        · exact .inl e
        · right
          simp only [decide_eq_true_eq]
          omega)
      obtain rfl : k = K := hF.trans HKK.out.symm
      clear hF HKK
      have HSRC : Hid (∀ ad, ao = some ad → ∀ j u, (spotCells (l.take k))[j]? = some u → wr.cell? (ad.add j) = some u) := hide (spots_src (fun j hj => by
        rw [List.length_take] at hj
        obtain ⟨b, o, e, h1, h2⟩ := HSP.out j (by omega)
        exact ⟨b, o, e, by rw [getD_take (by omega)]; exact h1, by rw [getD_take (by omega)]; exact h2⟩))
      have HSL : Hid ((spotCells (l.take k)).length = k * 2) := hide (by rw [spotCells_length, List.length_take, Nat.min_eq_left hk])
      have HS1 := hide (spotCells_one (l.take k))
      have HOK : Hid (∀ (W : World) (v' : Value), W.ownsRow wr.heap.size 31 2 v' k (spotCells (l.take k)) → OwnSpots W wr.heap.size v' (l.take k)) := hide (fun W v' h => by
        unfold OwnSpots
        rw [List.length_take, Nat.min_eq_left hk]
        exact h)
      have HNI : Hid (ao = none → k = 0 ∧ cap = 0) := hide (fun e => by obtain ⟨h1, h2⟩ := HNIL.out e; exact ⟨by omega, h2⟩)
      have hkc : k ≤ cap := by omega
      have hkc' : (k : Int) ≤ (cap : Int) := by omega
      have hw2 : IntKind.i64.wrap ((l.length : Int) - (k : Int)) = (l.length : Int) - (k : Int) := by rw [IntKind.wrap_i64]; omega
      have hln9 : k ≤ 100000 := by omega
      have HMX : Hid (k ≤ maxLen ∧ 0 + k ≤ maxLen) := hide (by unfold maxLen; omega)
      by_cases hlt : k < l.length
      case' pos =>
        obtain ⟨rb, of, rfl, m0, m1⟩ := HSP.out k hlt
        have d1 : decide ((k : Int) < (l.length : Int)) = true := decide_eq_true (by omega)
        have d1' : decide (k < l.length) = true := decide_eq_true hlt
        have hi1 : (k : Int) < (l.length : Int) := by omega
        have dx : decide ((l.getD k default).p < x) = false := decide_eq_false (fun h => hgo ⟨hlt, h⟩)
        clear hgo HJ
        generalize (l.getD k default).o = so at *
        generalize (l.getD k default).p = sp at *
      case' neg =>
        have d1 : decide ((k : Int) < (l.length : Int)) = false := decide_eq_false (by omega)
        have d1' : decide (k < l.length) = false := decide_eq_false hlt
        clear hgo HJ hlt
      all_goals
        clear HSP HNIL
        have HLK : Hid ((l.take k).length = k) := hide (by rw [List.length_take, Nat.min_eq_left hk])
        generalize spotCells (l.take k) = PL at *
        have HLX : Hid (OwnSpots wr wr.heap.size (.slice none 0 0) []) := hide ⟨rfl, .inl ⟨rfl, rfl⟩⟩
        generalize hnn : l.length = n at *
        have HNN := hide hnn
        clear hnn
        go_wp2_with (at_builtin; refine wpList_append_src rfl _ _ 39 rfl wr.heap.size 31 i0 (.agg #[.int .i64 0, .int .i64 0]) 2 16 Try.underlying39 hi hz0 hz1 hz2 rfl (by decide) (.slice none 0 0) 0 [] rfl H0.out _ k cap PL rfl HSL.out HNI.out HSRC.out HS1.out HMX.out.2 (by omega) (Nat.le_refl _) ?_; intro v1 w1 hown hgrow; rw [Nat.zero_add, List.nil_append] at hown; have HO1 := hide (HOK.out _ _ hown); have HB1 : Hid (Below wr.heap.size wr w1) := hide ((Below.refl _ _).grown hgrow (Nat.le_refl _) (by intro r e; simp [Value.ownBlock] at e)); clear hown hgrow; obtain ⟨a5, c5, rfl, hj1, hj2, hj3, hj4⟩ := OwnSpots.any HO1.out; clear hj1 hj2 hj3 hj4; rw [HLK.out] at HO1 ⊢; have k1 := (HB1.out.cell (p := ⟨gr, 1, none⟩) (World.block_lt_of_cell? wr _ c1)).trans c1; have kf := frozen_of_row _ _ 1 _ _ (HX.out.call HB1.out).box)
        have HF := hide (RefO.put HX.out HB1.out hbase (Nat.le_refl _) (Below.refl _ _) HX.out.lt HO1.out)
        go_ret
        obtain ⟨j1, j2, j3⟩ := HF.out
        exact ⟨_, (by rw [HNN.out]; rfl), j1, j2, (by rw [HNN.out]; exact j3)⟩
end Go.Proofs.Ythbknahmmegcdaa
