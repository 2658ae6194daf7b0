/- Walks of slices.IndexFunc, DeleteFunc over spots, by index's Cut; of Cut. -/
import Derived.Test.YthbknahmmegcdaaIxAddW
import Derived.Test.YthbknahmmegcdaaIxFind2
import Derived.Lib.SliceRun
import Derived.WalkMore
namespace Go.Proofs.Ythbknahmmegcdaa
open Go.RowKit
set_option linter.unusedVariables false

theorem spotCells_take (l : List S2) (i : Nat) : spotCells (l.take i) = (spotCells l).take (i * 2) := by
  induction l generalizing i with
  | nil => simp [spotCells]
  | cons s l ih => cases i with
    | zero => simp [spotCells]
    | succ i =>
      rw [show (i + 1) * 2 = i * 2 + 2 by omega]
      simp [spotCells, ih]
/-- fewer of a row -/
theorem own_fewer {w : World} {base g n cap : Nat} {l : List S2} (h : w.ownsRow base 31 2 (.slice (some ⟨g, 0, none⟩) n cap) n (spotCells l)) (hn : l.length = n) (i : Nat) (hi : i ≤ n) :
    w.ownsRow base 31 2 (.slice (some ⟨g, 0, none⟩) i cap) i (spotCells (l.take i)) := by
  rcases h.2 with ⟨e, _⟩ | ⟨b, c, cur, e, h1, h2, h3, h4, h5, h6⟩
  · cases e
  · injection e with e e1 e2
    injection e with e
    injection e with e
    subst e e2
    refine ⟨by rw [spotCells_length, List.length_take]; omega, .inr ⟨g, cap, cur, rfl, h1, h2, by omega, h4, h5, ?_⟩⟩
    rw [spotCells_take, ← h6, List.take_take]
    congr 1
    omega
/-- cells behind a row's elements may be written -/
theorem own_behind {base g cap i : Nat} {xs : List Value} : ∀ (vs : List Value) (o : Nat) (w : World), w.ownsRow base 31 2 (.slice (some ⟨g, 0, none⟩) i cap) i xs → i * 2 ≤ o → (w.setCells g o vs).ownsRow base 31 2 (.slice (some ⟨g, 0, none⟩) i cap) i xs
  | [], _, _, h, _ => h
  | v :: vs, o, w, h, ho => by
    refine own_behind vs (o + 1) _ ?_ (by omega)
    rcases h.2 with ⟨e, _⟩ | ⟨b, c, cur, e, h1, h2, h3, h4, h5, h6⟩
    · cases e
    · injection e with e e1 e2
      injection e with e
      injection e with e
      subst e e2
      refine ⟨h.1, .inr ⟨g, cap, cur.setIfInBounds o v, rfl, h1, ?_, h3, h4, by simpa using h5, ?_⟩⟩
      · rw [setCell_eq_setRow w g o _ _ _ _ h2]
        exact setRow_heap w g _ _ _ _ h2
      · rw [← h6]
        simp only [Array.toList_setIfInBounds]
        rw [List.take_set_of_le (by omega)]
theorem run_clear_spots (w : World) (ty : TypeId) (b o n c : Nat) (hn : 0 < n)
    (hc : ∀ j, j < n * 2 → (w.cell? ⟨b, o + j, none⟩).isSome = true) (hf : ∀ j, j < n * 2 → w.frozen? ⟨b, o + j, none⟩ = false) :
    (Builtin.clear_ #[39] ty #[.slice (some ⟨b, o, none⟩) n c]).run Try.prog w = .ok (.tuple #[]) (w.setCells b o (List.replicate (n * 2) (.int .i64 0))) := by
  have hv : ∀ w, (zeroValue 31).run Try.prog w = .ok (.agg #[.int .i64 0, .int .i64 0]) w := fun w => Try.zeroValue31 w
  have hzc : (Builtin.zeroCells (Value.agg #[.int .i64 0, .int .i64 0]).cells n).toList = List.replicate (n * 2) (.int .i64 0) := by
    apply List.ext_getElem
    · simp [Builtin.zeroCells, Value.cells]
    · intro i h1 h2
      have hm : i % 2 = 0 ∨ i % 2 = 1 := by omega
      rcases hm with hm | hm <;> simp [Builtin.zeroCells, Value.cells, hm]
  have hst := run_storeCells_cells (P := Try.prog) b o (List.replicate (n * 2) (.int .i64 0)) 0 w (by simpa using hc) (by simpa using hf) (by intro v hv'; rw [List.eq_of_mem_replicate hv']; rfl)
  simp only [Nat.add_zero] at hst
  obtain ⟨m, rfl⟩ : ∃ m, n = m + 1 := ⟨n - 1, by omega⟩
  simp [Builtin.clear_, run_underlying Try.underlying39, hv, hzc, hst]

theorem Cut1_ok (s : S2) (bo : Nat) (x : Int) (w : World) (h : w.cell? ⟨bo, 0, none⟩ = some (.int .i64 x)) :
    Calls Try.prog 30 #[.agg (spotV s), .pointer (some ⟨bo, 0, none⟩)] w fun e w' => e = .returned (.bool (decide (x ≤ s.p))) ∧ Below w.heap.size w w' := by
  have HB := hide ((Below.refl w.heap.size w).alloc (Nat.le_refl _) (.cells (spotV s) 31))
  have h2 : (w.alloc (.cells (spotV s) 31)).cell? ⟨bo, 0, none⟩ = some (.int .i64 x) := (HB.out.cell (p := ⟨bo, 0, none⟩) (World.block_lt_of_cell? w _ h)).trans h
  obtain ⟨so, sp⟩ := s
  unfold spotV at *
  clear h
  go_enter Try.func30, Try.ntmps30
  go_wp2
  go_ret
  exact ⟨rfl, HB.out⟩
/-- how many stand ahead of a place -/
def cutN (x : Int) (l : List S2) : Nat := firstT (fun s => decide (x ≤ s.p)) l
theorem firstT_le (p : S2 → Bool) : ∀ l : List S2, firstT p l ≤ l.length
  | [] => Nat.le_refl _
  | s :: l => by
    unfold firstT
    split
    · exact Nat.zero_le _
    · simpa using firstT_le p l
theorem firstT_before (p : S2 → Bool) : ∀ (l : List S2) (a : Nat), a < firstT p l → p (l.getD a default) = false
  | [], a, h => by simp [firstT] at h
  | s :: l, a, h => by
    unfold firstT at h
    split at h
    · omega
    · rename_i hs
      cases a with
      | zero => simpa using hs
      | succ a => simpa using firstT_before p l a (by omega)
theorem firstT_at (p : S2 → Bool) : ∀ (l : List S2), firstT p l < l.length → p (l.getD (firstT p l) default) = true
  | [], h => by simp [firstT] at h
  | s :: l, h => by
    unfold firstT at h ⊢
    split
    · rename_i hs
      simpa using hs
    · rename_i hs
      rw [if_neg hs] at h
      simpa using firstT_at p l (by simpa using h)

set_option maxHeartbeats 1600000 in
/-- slices.IndexFunc by Cut's test -/
theorem IndexFunc_ok (bo : Nat) (x : Int) (a : Option Addr) (c : Nat) (l : List S2) (w : World) (hn : l.length ≤ 1000000) (hs : SpotsAt w a l) (hco : w.cell? ⟨bo, 0, none⟩ = some (.int .i64 x)) :
    Calls Try.prog 40 #[.slice a l.length c, .func (.func 30) #[] #[.pointer (some ⟨bo, 0, none⟩)]] w fun e w' => e = .returned (.int .i64 (if cutN x l = l.length then (-1 : Int) else ((cutN x l : Nat) : Int))) ∧ Below w.heap.size w w' := by
  have HS := hide hs
  have HCO := hide (fun (w' : World) (hB : Below w.heap.size w w') => (hB.cell (p := ⟨bo, 0, none⟩) (World.block_lt_of_cell? w _ hco)).trans hco)
  have HB1 := hide (firstT_before (fun s => decide (x ≤ s.p)) l)
  have HB2 := hide (firstT_at (fun s => decide (x ≤ s.p)) l)
  have hle := firstT_le (fun s => decide (x ≤ s.p)) l
  obtain ⟨R, hR⟩ : ∃ R : Int, R = (if cutN x l = l.length then (-1 : Int) else ((cutN x l : Nat) : Int)) := ⟨_, rfl⟩
  rw [← hR]
  unfold cutN at hR
  generalize firstT (fun s => decide (x ≤ s.p)) l = r at *
  have HR := hide hR
  clear hR hs hco
  generalize hnn : l.length = n at *
  have HNN := hide hnn
  clear hnn
  go_enter Try.func40, Try.ntmps40
  go_wp2
  go_loopw [8] (fun i wr => ∃ k : Nat, k ≤ r ∧ i = .int .i64 k ∧ Hid (Below w.heap.size w wr)) (fun i _ => n - (intOf i).toNat)
  case atStart => exact ⟨0, Nat.zero_le _, rfl, hide (Below.refl _ _)⟩
  case round =>
    obtain ⟨k, hk, rfl, HB⟩ := hrel
    by_cases hlt : k < n
    · have d1 : decide ((k : Int) < (n : Int)) = true := decide_eq_true (by omega)
      have d1' : decide (k < n) = true := decide_eq_true hlt
      obtain ⟨b, off, rfl, m0, m1⟩ := (HS.out.below HB.out (Nat.le_refl _)) k (by rw [HNN.out]; exact hlt)
      have HC := hide (Cut1_ok (l.getD k default) bo x wr (HCO.out wr HB.out))
      have HQ1 : Hid (k < r → decide (x ≤ (l.getD k default).p) = false) := hide (HB1.out k)
      have HQ2 : Hid (k = r → decide (x ≤ (l.getD k default).p) = true) := hide (fun e => by subst e; exact HB2.out hlt)
      generalize l.getD k default = s at *
      obtain ⟨so, sp⟩ := s
      unfold spotV at HC
      dsimp only at m0 m1 HC HQ1 HQ2
      have hi1 : (k : Int) < (n : Int) := by omega
      have HJ := hide hlt
      by_cases hkr : k < r
      · have q := HQ1.out hkr
        rw [q] at HC
        clear q HQ1 HQ2
        go_wp2_with (go_at_call 30; refine HC.out.mono ?_; rintro e w1 ⟨rfl, hB⟩; have HB3 := hide (HB.out.trans (hB.mono HB.out.size)); clear hB)
        go_roundw
        case rel => exact ⟨k + 1, by omega, by go_num, HB3⟩
        case measure => have := HJ.out; simp [intOf] <;> omega
      · obtain rfl : k = r := by omega
        have q := HQ2.out rfl
        rw [q] at HC
        have HE := hide (show R = (k : Nat) by rw [HR.out, if_neg (by omega)])
        clear q HQ1 HQ2
        go_wp2_with (go_at_call 30; refine HC.out.mono ?_; rintro e w1 ⟨rfl, hB⟩; have HB3 := hide (HB.out.trans (hB.mono HB.out.size)); clear hB)
        go_ret
        exact ⟨by rw [HE.out] <;> rfl, HB3.out⟩
    · obtain rfl : k = n := by omega
      have d1 : decide ((k : Int) < (k : Int)) = false := decide_eq_false (by omega)
      have d1' : decide (k < k) = false := decide_eq_false (by omega)
      have HE := hide (show R = -1 by rw [HR.out, if_pos (by omega)])
      go_wp2
      go_ret
      exact ⟨by rw [HE.out] <;> rfl, HB.out⟩
end Go.Proofs.Ythbknahmmegcdaa
