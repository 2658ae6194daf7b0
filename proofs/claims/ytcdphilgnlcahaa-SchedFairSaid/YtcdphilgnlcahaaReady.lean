/- Walk of sched.ready: the tasks that can go on, in order. -/
import Derived.Test.YtcdphilgnlcahaaBase
namespace Go.Proofs.Ytcdphilgnlcahaa
open Go.RowKit

theorem Try.info3 : (Try.prog.info? 3).map (fun i => (i.zero, i.size, i.bytes)) = some (some (.int .i64 0), 1, 8) := by kernel_rfl

/-- the places below k at which p holds, in order -/
def rdy (p : Nat → Bool) (k : Nat) : List Nat := (List.range k).filter p
theorem rdy_succ (p : Nat → Bool) (k : Nat) : rdy p (k + 1) = rdy p k ++ if p k then [k] else [] := by
  unfold rdy; rw [List.range_succ, List.filter_append]; cases h : p k <;> simp [h]
theorem rdy_le (p : Nat → Bool) (k : Nat) : (rdy p k).length ≤ k := by
  unfold rdy; exact Nat.le_trans (List.length_filter_le _ _) (by simp)
def ints (l : List Nat) : List Value := l.map fun i : Nat => .int .i64 (i : Int)
theorem ints_hit (p : Nat → Bool) (k : Nat) (h : p k = true) : ints (rdy p (k + 1)) = ints (rdy p k) ++ [.int .i64 (k : Int)] := by
  rw [rdy_succ, h]; simp [ints]

set_option maxHeartbeats 400000 in
theorem ready_any (a : Option Addr) (len cap : Nat) (p : Nat → Bool) (w : World) (hm : len ≤ 100000)
    (hc : ∀ j, j < len → ∃ b off, a = some ⟨b, off, none⟩ ∧ w.cell? ⟨b, off + j, none⟩ = some (.bool (p j))) :
    Calls Try.prog 22 #[.slice a len cap] w fun e w' => ∃ v, e = .returned v ∧ w'.ownsRow w.heap.size 3 1 v (rdy p len).length (ints (rdy p len)) ∧ Below w.heap.size w w' := by
  obtain ⟨i0, hi, hz0, hz1, hz2⟩ := info_parts Try.info3
  go_enter Try.func22, Try.ntmps22
  go_wp2
  go_loopw [3, 8] (fun v i wr => ∃ k : Nat, k ≤ len ∧ i = .int .i64 k ∧ wr.ownsRow w.heap.size 3 1 v (rdy p k).length (ints (rdy p k)) ∧ Below w.heap.size w wr)
    (fun _ i _ => len - (intOf i).toNat)
  case atStart => exact ⟨0, Nat.zero_le _, rfl, World.ownsRow_nil _ _ _ _, Below.refl _ _⟩
  case round =>
    obtain ⟨k, hk, rfl, hown, hB⟩ := hrel
    by_cases hlt : k < len
    · obtain ⟨b, off, rfl, hcell⟩ := hc k hlt
      have hcx : wr.cell? ⟨b, off + k, none⟩ = some (.bool (p k)) := (hB.cell (World.block_lt_of_cell? w _ hcell)).trans hcell
      have hbd := rdy_le p k
      have hsz := hB.size
      clear hc hcell
      cases hp : p k with
      | true =>
        rw [hp] at hcx
        have H1 := hide hp
        clear hp
        go_wp2_with (at_builtin; refine wpList_append_own _ rfl _ _ 37 rfl w.heap.size 3 i0 (.int .i64 0) 1 8 Try.underlying37 hi hz0 hz1 hz2 rfl (by decide) _ _ _ rfl (hown.alloc _) ⟨wr.heap.size, 0, none⟩ 1 1 [.int .i64 k] rfl rfl (cell_one_new _ _ _) (one_cell _ rfl) (by unfold maxLen; omega) (by omega) (by simp; omega) ?_; intro v1 w1 hown1 hgrow1 hnil1)
        go_roundw
        case rel => exact ⟨k + 1, by omega, by go_num, by rw [ints_hit p k H1.out, rdy_succ, H1.out]; simpa using hown1, (hB.alloc hsz _).grown hgrow1 (by simp; omega) (fun j hj => (hown.lt j hj).1)⟩
        case measure => simp [intOf]; omega
      | false =>
        rw [hp] at hcx
        have H1 := hide hp
        clear hp
        go_wp2
        go_roundw
        case rel => exact ⟨k + 1, by omega, by go_num, by rw [rdy_succ, H1.out]; simpa using hown, hB⟩
        case measure => simp [intOf]; omega
    · have hkl : k = len := by omega
      subst hkl
      go_wp2
      go_ret
      exact ⟨_, rfl, hown, hB⟩
end Go.Proofs.Ytcdphilgnlcahaa
