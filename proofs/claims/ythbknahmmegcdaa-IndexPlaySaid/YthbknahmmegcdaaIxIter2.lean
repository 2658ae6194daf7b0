/- slices.Values' iterator over spots, for every loop body that keeps the spots (its own box may lie anywhere). -/
import Derived.Test.YthbknahmmegcdaaIxCut3
namespace Go.Proofs.Ythbknahmmegcdaa
open Go.RowKit Go.Shelf
set_option linter.unusedVariables false

section
attribute [local go_sem] Oper.semAt_some

set_option maxRecDepth 100000 in
set_option maxHeartbeats 2000000 in
/-- the iterator over spots, for every loop body that keeps what lay below n₀ -/
theorem values2_in (n : Nat) (hn : 1 ≤ n) (ly Bs n₀ : Nat) (a : Option Addr) (c : Nat) (l : List S2) (hlen : l.length ≤ 1000000) (hlt : ∀ b off, a = some ⟨b, off, none⟩ → b < n₀) (J Jx : List S2 → World → Prop)
    (hY : ∀ pre s W, J pre W → pre.length < l.length → YieldAt Fence.wide (n - 1) Try.prog ly #[.agg (spotV s)] W fun e W' =>
      (e = .returned (.bool true) ∧ J (pre ++ [s]) W' ∧ Below n₀ W W') ∨ (e = .returned (.bool false) ∧ Jx (pre ++ [s]) W'))
    (W : World) (hnW : n₀ ≤ W.heap.size) (hJ : AbidesFrom W.heap.size J) (hBs : W.cell? ⟨Bs, 0, none⟩ = some (.slice a l.length c)) (hs : SpotsAt W a l) (h0 : J [] W) :
    CallsIn Fence.wide n Try.prog 41 #[.func (.yield ly) #[] #[], .pointer (some ⟨Bs, 0, none⟩)] W fun e W' => (∃ v, e = .returned v) ∧
      ((∃ ys, ys = l ∧ J ys W') ∨ (∃ pre, (∃ k, k ≤ l.length ∧ pre = l.take k) ∧ Jx pre W')) := by
  refine callsIn_of_wp Try.func41 rfl trivial ?_ rfl
  simp only [Try.ntmps41, List.size_toArray, List.length_cons, List.length_nil, Nat.reduceAdd, Nat.reduceSub, Array.replicate_succ, Array.replicate_zero, List.push_toArray, List.append_toArray, List.nil_append, List.cons_append]
  gi_wp2
  gi_loopw [7] (fun i wr => ∃ k : Nat, k ≤ l.length ∧ i = .int .i64 k ∧ J (l.take k) wr ∧ Below n₀ W wr) (fun i _ => l.length - (intOf i).toNat)
  case atStart => exact ⟨0, Nat.zero_le _, rfl, h0, Below.refl _ _⟩
  case round =>
    obtain ⟨k, hk, rfl, hJs, hnx⟩ := hrel
    by_cases hlt2 : k < l.length
    · obtain ⟨b, off, rfl, m0, m1⟩ := hs k hlt2
      have hbn := hlt b off rfl
      have m0' := (hnx.cell (p := ⟨b, off + k * 2, none⟩) hbn).trans m0
      have m1' := (hnx.cell (p := ⟨b, off + k * 2 + 1, none⟩) hbn).trans m1
      have htk : l.take (k + 1) = l.take k ++ [l.getD k default] := by
        rw [List.take_add_one, List.getElem?_eq_getElem hlt2]
        simp [List.getD_eq_getElem?_getD, hlt2]
      have hJa : J (l.take k) (wr.alloc (.cells #[.int .i64 (l.getD k default).o, .int .i64 (l.getD k default).p] 31)) := hJ _ wr _ none hJs (World.grownBy_alloc wr _ none) (fun r e => by cases e)
      obtain ⟨fn, tmps, assign, body, hy, hR⟩ := hY _ (l.getD k default) _ hJa (by rw [List.length_take]; omega)
      have hna : Below n₀ W (wr.alloc (.cells #[.int .i64 (l.getD k default).o, .int .i64 (l.getD k default).p] 31)) := hnx.alloc (Nat.le_trans hnW hnx.size) _
      rw [← htk] at hR
      have HTK := hide htk
      clear htk m0 m1 hJa hY hs
      generalize l.getD k default = s at *
      obtain ⟨so, sp⟩ := s
      unfold spotV at hy
      dsimp only at hy m0' m1' hna hR
      have hi1 : (k : Int) < (l.length : Int) := by omega
      gi_wp2
      refine hR.mono ?_
      rintro e W3 (⟨rfl, hJ3, hk3⟩ | ⟨rfl, hJx3⟩)
      · gi_wp2
        go_roundw
        case rel => exact ⟨k + 1, by omega, by simp, hJ3, hna.trans hk3⟩
        case measure => simp [intOf]; omega
      · gi_wp2
        refine bodyPost_ret (results_none rfl _ _ _) rfl ?_
        exact ⟨⟨_, rfl⟩, .inr ⟨_, ⟨k + 1, by omega, rfl⟩, hJx3⟩⟩
    · obtain rfl : k = l.length := by omega
      gi_wp2
      go_end0
      exact ⟨⟨_, rfl⟩, .inl ⟨l, rfl, by rw [List.take_length] at hJs; exact hJs⟩⟩
end

theorem values_stops2 (n : Nat) (hn : 1 ≤ n) (Bs n₀ : Nat) (a : Option Addr) (c : Nat) (l : List S2) (hlen : l.length ≤ 1000000) (hlt : ∀ b off, a = some ⟨b, off, none⟩ → b < n₀) (w : World) (hnw : n₀ ≤ w.heap.size)
    (hBs : w.cell? ⟨Bs, 0, none⟩ = some (.slice a l.length c)) (hs : SpotsAt w a l) :
    SeqStopsK Fence.wide n Try.prog 41 #[.pointer (some ⟨Bs, 0, none⟩)] (fun s : S2 => #[.agg #[.int .i64 s.o, .int .i64 s.p]]) (Below n₀) (fun xs => xs = l) (fun pre => ∃ k, k ≤ l.length ∧ pre = l.take k) l.length w :=
  fun l0 J Jx W hW hJ hJx hY h0 => values2_in n hn l0 Bs n₀ a c l hlen hlt J Jx hY W (Nat.le_trans hnw hW.size) hJ ((hW.cell (p := ⟨Bs, 0, none⟩) (World.block_lt_of_cell? w _ hBs)).trans hBs) (hs.below hW (Nat.le_refl _)) h0
end Go.Proofs.Ythbknahmmegcdaa
