/- Walks of slices.Values' iterator, slices.Clone, index's All, Copy, over spots. -/
import Derived.Test.YthbknahmmegcdaaIxNone
import Derived.Lib.SliceRun
namespace Go.Proofs.Ythbknahmmegcdaa
open Go.RowKit Go.Shelf
set_option linter.unusedVariables false

section
attribute [local go_sem] Oper.semAt_some

set_option maxRecDepth 100000 in
set_option maxHeartbeats 2000000 in
/-- the iterator over spots, for every loop body that keeps what lay below n₀ -/
theorem values1_in (n : Nat) (hn : 1 ≤ n) (ly Bs n₀ : Nat) (a : Option Addr) (c : Nat) (l : List S2) (hlen : l.length ≤ 1000000) (hBn : Bs < n₀) (hlt : ∀ b off, a = some ⟨b, off, none⟩ → b < n₀) (J Jx : List S2 → World → Prop)
    (hY : ∀ pre s W, J pre W → pre.length < l.length → YieldAt Fence.wide (n - 1) Try.prog ly #[.agg (spotV s)] W fun e W' =>
      (e = .returned (.bool true) ∧ J (pre ++ [s]) W' ∧ Below n₀ W W') ∨ (e = .returned (.bool false) ∧ Jx (pre ++ [s]) W'))
    (W : World) (hnW : n₀ ≤ W.heap.size) (hJ : AbidesFrom W.heap.size J) (hBs : W.cell? ⟨Bs, 0, none⟩ = some (.slice a l.length c)) (hs : SpotsAt W a l) (h0 : J [] W) :
    CallsIn Fence.wide n Try.prog 41 #[.func (.yield ly) #[] #[], .pointer (some ⟨Bs, 0, none⟩)] W fun e W' => (∃ v, e = .returned v) ∧
      ((∃ ys, ys = l ∧ J ys W') ∨ (∃ pre, (∃ k, k ≤ l.length ∧ pre = l.take k) ∧ Jx pre W')) := by
  refine callsIn_of_wp Try.func41 rfl trivial ?_ rfl
  simp only [Try.ntmps41, List.size_toArray, List.length_cons, List.length_nil, Nat.reduceAdd, Nat.reduceSub, Array.replicate_succ, Array.replicate_zero, List.push_toArray, List.append_toArray, List.nil_append, List.cons_append]
  gi_wp2
  gi_loopw [7] (fun i wr => ∃ k : Nat, k ≤ l.length ∧ i = .int .i64 k ∧ J (l.take k) wr ∧ Below n₀ W wr) (fun i _ => l.length - (intOf i).toNat)
  case atStart => exact ⟨0, Nat.zero_le _, rfl, h0, Below.refl _ _⟩
  case round =>
    obtain ⟨k, hk, rfl, hJs, hnx⟩ := hrel
    by_cases hlt2 : k < l.length
    · obtain ⟨b, off, rfl, m0, m1⟩ := hs k hlt2
      have hbn := hlt b off rfl
      have m0' := (hnx.cell (p := ⟨b, off + k * 2, none⟩) hbn).trans m0
      have m1' := (hnx.cell (p := ⟨b, off + k * 2 + 1, none⟩) hbn).trans m1
      have htk : l.take (k + 1) = l.take k ++ [l.getD k default] := by
        rw [List.take_add_one, List.getElem?_eq_getElem hlt2]
        simp [List.getD_eq_getElem?_getD, hlt2]
      have hJa : J (l.take k) (wr.alloc (.cells #[.int .i64 (l.getD k default).o, .int .i64 (l.getD k default).p] 31)) := hJ _ wr _ none hJs (World.grownBy_alloc wr _ none) (fun r e => by cases e)
      obtain ⟨fn, tmps, assign, body, hy, hR⟩ := hY _ (l.getD k default) _ hJa (by rw [List.length_take]; omega)
      have hna : Below n₀ W (wr.alloc (.cells #[.int .i64 (l.getD k default).o, .int .i64 (l.getD k default).p] 31)) := hnx.alloc (Nat.le_trans hnW hnx.size) _
      rw [← htk] at hR
      have HTK := hide htk
      clear htk m0 m1 hJa hY hs
      generalize l.getD k default = s at *
      obtain ⟨so, sp⟩ := s
      unfold spotV at hy
      dsimp only at hy m0' m1' hna hR
      have hi1 : (k : Int) < (l.length : Int) := by omega
      gi_wp2
      refine hR.mono ?_
      rintro e W3 (⟨rfl, hJ3, hk3⟩ | ⟨rfl, hJx3⟩)
      · gi_wp2
        go_roundw
        case rel => exact ⟨k + 1, by omega, by simp, hJ3, hna.trans hk3⟩
        case measure => simp [intOf]; omega
      · gi_wp2
        refine bodyPost_ret (results_none rfl _ _ _) rfl ?_
        exact ⟨⟨_, rfl⟩, .inr ⟨_, ⟨k + 1, by omega, rfl⟩, hJx3⟩⟩
    · obtain rfl : k = l.length := by omega
      gi_wp2
      go_end0
      exact ⟨⟨_, rfl⟩, .inl ⟨l, rfl, by rw [List.take_length] at hJs; exact hJs⟩⟩
end

/-- slices.Clone of spots -/
theorem Clone_ok (a : Option Addr) (c : Nat) (l : List S2) (w : World) (hs : SpotsAt w a l) (hnil : a = none → l.length = 0 ∧ c = 0) (hn : l.length ≤ 1000000) :
    Calls Try.prog 28 #[.slice a l.length c] w fun e w' => ∃ v, e = .returned v ∧ OwnSpots w' w.heap.size v l ∧ Below w.heap.size w w' := by
  obtain ⟨i0, hi, hz0, hz1, hz2⟩ := info_spot
  cases a with
  | none =>
    obtain ⟨h1, rfl⟩ := hnil rfl
    have e : l = [] := List.length_eq_zero_iff.1 h1
    subst e
    have H0 : Hid (OwnSpots w w.heap.size (.slice none 0 0) []) := hide ⟨rfl, .inl ⟨rfl, rfl⟩⟩
    have hnl : ∀ w : World, (binOp .eql 39 (.slice none 0 0) (.slice none 0 0)).run Try.prog w = .ok (.bool true) w := fun w => Go.Lib.run_eql_slice_nil (P := Try.prog) w _ _ none 0 0 0 0 Try.underlying39
    go_enter Try.func28, Try.ntmps28
    go_wp2
    go_ret
    exact ⟨_, rfl, H0.out, Below.refl _ _⟩
  | some ad =>
    have hrow0 : (w.alloc (.cells #[] 31)).ownsRow w.heap.size 31 2 (.slice (some ⟨w.heap.size, 0, none⟩) 0 0) 0 [] := ⟨rfl, .inr ⟨w.heap.size, 0, #[], rfl, Nat.le_refl _, heap_alloc_new w _, by omega, by unfold maxLen; omega, rfl, rfl⟩⟩
    have HROW0 := hide hrow0
    have HBW1 := hide ((Below.refl w.heap.size w).alloc (Nat.le_refl _) (.cells #[] 31))
    have HSRC := hide (spots_src (hs.below HBW1.out (Nat.le_refl _)) ad rfl)
    have HPL := hide (spotCells_length l)
    have HP1 := hide (spotCells_one l)
    have HOW : Hid (∀ (w' : World) (v : Value), w'.ownsRow w.heap.size 31 2 v l.length (spotCells l) → OwnSpots w' w.heap.size v l) := hide (fun w' v h => h)
    have hnl : ∀ (n : Nat) (w : World), (binOp .eql 39 (.slice (some ad) n c) (.slice none 0 0)).run Try.prog w = .ok (.bool false) w := fun n w => Go.Lib.run_eql_slice_nil (P := Try.prog) w _ _ (some ad) n c 0 0 Try.underlying39
    clear hs hrow0 hnil
    generalize spotCells l = PL at *
    generalize l.length = n at *
    go_enter Try.func28, Try.ntmps28
    go_wp2_with (at_builtin; refine wpList_append_own _ rfl (.tmp 5) (.tmp 6) 39 rfl w.heap.size 31 i0 (.agg #[.int .i64 0, .int .i64 0]) 2 16 Try.underlying39 hi hz0 hz1 hz2 rfl (by decide) (.slice (some ⟨w.heap.size, 0, none⟩) 0 0) 0 [] rfl HROW0.out ad n c PL rfl HPL.out HSRC.out HP1.out (by unfold maxLen; omega) (by omega) (by simp) ?_; intro v2 w2 hown2 hgrow2 _; rw [Nat.zero_add, List.nil_append] at hown2; have HO2 := hide (HOW.out _ _ hown2); have HB2 := hide (HBW1.out.grown hgrow2 (by simp) (by intro k e; simp [Value.ownBlock] at e; omega)); clear hown2 hgrow2)
    go_ret
    exact ⟨_, rfl, HO2.out, HB2.out⟩
end Go.Proofs.Ythbknahmmegcdaa
