/- Walks of slices.DeleteFunc by Cut's test, of index's Cut. -/
import Derived.Test.YthbknahmmegcdaaIxCut
namespace Go.Proofs.Ythbknahmmegcdaa
open Go.RowKit
set_option linter.unusedVariables false

set_option maxHeartbeats 1600000 in
theorem DeleteFunc_ok (bo : Nat) (x : Int) {w : World} {base : Nat} {v : Value} {l : List S2} (hv : OwnSpots w base v l) (hn : l.length ≤ 1000000) (hmono : ∀ a, cutN x l ≤ a → a < l.length → decide (x ≤ (l.getD a default).p) = true)
    (hco : w.cell? ⟨bo, 0, none⟩ = some (.int .i64 x)) :
    Calls Try.prog 29 #[v, .func (.func 30) #[] #[.pointer (some ⟨bo, 0, none⟩)]] w fun e w' =>
      ∃ v', e = .returned v' ∧ OwnSpots w' base v' (l.take (cutN x l)) ∧ w.grownBy w' v.ownBlock ∧ v'.ownBlock = v.ownBlock := by
  obtain ⟨ao, cap, rfl, hcap, hnil, hs, hat⟩ := hv.any
  have hle : cutN x l ≤ l.length := firstT_le _ l
  have HIF := hide (IndexFunc_ok bo x ao cap l w hn hs hco)
  by_cases he : cutN x l = l.length
  · rw [if_pos he] at HIF
    have HE : Hid (l.take (cutN x l) = l) := hide (by rw [he]; exact List.take_length)
    have HV := hide hv
    clear hv hs hmono he hle hco hat hnil
    generalize hnn : l.length = n at *
    have hgr := fun (w' : World) (h : Below w.heap.size w w') => (show w.grownBy w' (Value.slice ao n cap).ownBlock from ⟨h.os, h.tape, h.output, h.size, fun i hi _ => h.block i hi⟩)
    have HGR := hide hgr
    clear hgr
    have HN := hide hnn
    clear hnn
    go_enter Try.func29, Try.ntmps29
    go_wp2_with fail
    refine HIF.out.mono ?_
    rintro e w1 ⟨rfl, hB⟩
    have HB := hide hB
    clear hB
    go_wp2_with fail
    go_ret
    exact ⟨_, rfl, by rw [HE.out]; exact kept_below2 HV.out HB.out, HGR.out _ HB.out, rfl⟩
  · rw [if_neg he] at HIF
    obtain ⟨rb, off, rfl, _⟩ := hs 0 (by omega)
    obtain ⟨hb1, hb2, rfl⟩ := hat rb off rfl
    have HS := hide hs
    have HMN := hide hmono
    have HCO := hide (fun (w' : World) (hB : Below w.heap.size w w') => (hB.cell (p := ⟨bo, 0, none⟩) (World.block_lt_of_cell? w _ hco)).trans hco)
    have HV := hide hv
    have HCELL : Hid (∀ (w' : World), Below w.heap.size w w' → ∀ j, j < l.length * 2 → (w'.cell? ⟨rb, j, none⟩).isSome = true ∧ w'.frozen? ⟨rb, j, none⟩ = false) := hide (fun w' hB j hj => by
      have h2 := kept_below2 hv hB
      refine ⟨?_, World.ownsRow.frozenAt h2 j⟩
      obtain ⟨b, o2, e, c0, c1⟩ := (hs.below hB (Nat.le_refl _)) (j / 2) (by omega)
      injection e with e
      injection e with e1 e2
      subst e1 e2
      rw [Nat.zero_add] at c0 c1
      have hm : j = j / 2 * 2 ∨ j = j / 2 * 2 + 1 := by omega
      rcases hm with hm | hm
      · rw [hm, c0]; rfl
      · rw [hm, c1]; rfl)
    have HFIN : Hid (∀ (w' : World), Below w.heap.size w w' → OwnSpots (w'.setCells rb (cutN x l * 2) (List.replicate ((l.length - cutN x l) * 2) (.int .i64 0))) base (.slice (some ⟨rb, 0, none⟩) (cutN x l) cap) (l.take (cutN x l)) ∧ w.grownBy (w'.setCells rb (cutN x l * 2) (List.replicate ((l.length - cutN x l) * 2) (.int .i64 0))) (some rb)) := hide (fun w' hB => by
      have h2 := own_behind (List.replicate ((l.length - cutN x l) * 2) (.int .i64 0)) (cutN x l * 2) w' (own_fewer (kept_below2 hv hB) rfl (cutN x l) hle) (Nat.le_refl _)
      refine ⟨?_, ?_⟩
      · unfold OwnSpots
        rw [List.length_take, Nat.min_eq_left hle]
        exact h2
      · have hb : Below w.heap.size w w' := hB
        refine ⟨?_, ?_, ?_, ?_, ?_⟩
        · exact (World.keptBut_setCells rb (may := fun _ => True) _ _ w' (fun _ _ => trivial)).1.trans hb.os
        · have : ∀ (vs : List Value) (o : Nat) (u : World), (u.setCells rb o vs).tape = u.tape := fun vs => by
            induction vs with
            | nil => intro o u; rfl
            | cons v vs ih => intro o u; exact ih (o + 1) _
          exact (this _ _ _).trans hb.tape
        · have : ∀ (vs : List Value) (o : Nat) (u : World), (u.setCells rb o vs).output = u.output := fun vs => by
            induction vs with
            | nil => intro o u; rfl
            | cons v vs ih => intro o u; exact ih (o + 1) _
          exact (this _ _ _).trans hb.output
        · have : ∀ (vs : List Value) (o : Nat) (u : World), (u.setCells rb o vs).heap.size = u.heap.size := fun vs => by
            induction vs with
            | nil => intro o u; rfl
            | cons v vs ih => intro o u; exact (ih (o + 1) _).trans (by simp [World.setCell])
          rw [this]
          exact hb.size
        · intro j hj hne
          have : ∀ (vs : List Value) (o : Nat) (u : World), (u.setCells rb o vs).heap[j]? = u.heap[j]? := fun vs => by
            induction vs with
            | nil => intro o u; rfl
            | cons v vs ih => intro o u; exact (ih (o + 1) _).trans (Below.heap_setCell _ _ _ j (fun e => hne (by rw [e])))
          exact (this _ _ _).trans (hb.block j hj))
    clear hv hs hmono hco hat hnil
    generalize hi0 : cutN x l = i at *
    generalize hnn : l.length = n at *
    have HNN := hide hnn
    clear hnn hi0
    have hin : i < n := by omega
    go_enter Try.func29, Try.ntmps29
    go_wp2_with fail
    refine HIF.out.mono ?_
    rintro e w1 ⟨rfl, hB⟩
    have HB := hide hB
    clear hB
    have q0 : ((i : Int) == -1) = false := beq_eq_false_iff_ne.2 (by omega)
    have hw1 : IntKind.i64.wrap ((i : Int) + 1) = ((i + 1 : Nat) : Int) := by rw [IntKind.wrap_i64]; omega
    go_wp2_with fail
    clear q0 hw1
    go_loopw [5, 6] (fun p j wr => ∃ k : Nat, i < k ∧ k ≤ n ∧ p = .int .i64 (i : Nat) ∧ j = .int .i64 k ∧ Hid (Below w.heap.size w wr)) (fun _ j _ => n - (intOf j).toNat)
    case atStart => exact ⟨i + 1, by omega, by omega, rfl, by simp, HB⟩
    case round =>
      obtain ⟨k, hik, hk, rfl, rfl, HBW⟩ := hrel
      by_cases hlt : k < n
      · have d1 : decide ((k : Int) < (n : Int)) = true := decide_eq_true (by omega)
        have d1' : decide (k < n) = true := decide_eq_true hlt
        have hi1 : (k : Int) < (n : Int) := by omega
        obtain ⟨b2, o2, e, m0, m1⟩ := (HS.out.below HBW.out (Nat.le_refl _)) k (by rw [HNN.out]; exact hlt)
        injection e with e
        injection e with e1 e2
        subst e1 e2
        rw [Nat.zero_add] at m0 m1
        have HBA := hide (HBW.out.alloc HBW.out.size (.cells (spotV (l.getD k default)) 31))
        have HC := hide (Cut1_ok (l.getD k default) bo x _ (HCO.out _ HBA.out))
        rw [HMN.out k (by omega) hlt] at HC
        have HJ := hide hlt
        generalize l.getD k default = s at *
        obtain ⟨so, sp⟩ := s
        unfold spotV at HC HBA
        dsimp only at m0 m1 HC HBA
        go_wp2_with (go_at_call 30; refine HC.out.mono ?_; rintro e w2 ⟨rfl, hB⟩; have HB3 := hide (HBA.out.trans (hB.mono HBA.out.size)); clear hB)
        go_roundw
        case rel => exact ⟨k + 1, by omega, by omega, rfl, by go_num, HB3⟩
        case measure => have := HJ.out; simp [intOf] <;> omega
      · obtain rfl : k = n := by omega
        have d1 : decide ((k : Int) < (k : Int)) = false := decide_eq_false (by omega)
        have d1' : decide (k < k) = false := decide_eq_false (by omega)
        have hj1 : (i : Int) ≤ (k : Int) := by omega
        have hj2 : (i : Int) ≤ (cap : Int) := by omega
        have hcc : ¬ cap = i := by omega
        have HCL := hide (fun ty => run_clear_spots wr ty rb (i * 2) (k - i) (cap - i) (by omega) (fun j hj => (HCELL.out wr HBW.out (i * 2 + j) (by omega)).1) (fun j hj => (HCELL.out wr HBW.out (i * 2 + j) (by omega)).2))
        have HF := hide (HFIN.out wr HBW.out)
        clear HIF
        have hcl := fun ty => HCL.out ty
        go_wp2_with fail
        go_ret
        exact ⟨_, rfl, HF.out.1, HF.out.2, rfl⟩
end Go.Proofs.Ythbknahmmegcdaa
