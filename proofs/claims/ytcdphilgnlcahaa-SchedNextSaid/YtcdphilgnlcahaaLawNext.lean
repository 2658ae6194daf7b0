/- Walk of the law SchedNext. -/
import Derived.Test.YtcdphilgnlcahaaRefNext
namespace Go.Proofs.Ytcdphilgnlcahaa
open Go.RowKit

theorem Try.info4 : (Try.prog.info? 4).map (fun i => (i.zero, i.size, i.bytes)) = some (some (.bool false), 1, 1) := by kernel_rfl

theorem Bools.cells {w : World} {a : Option Addr} {n : Nat} {p : Nat → Bool} (h : Bools w a n p) : CellsAt w a n (fun j => .bool (p j)) := h

theorem mrow_facts {w : World} {base : Nat} {T : TypeId} {v : Value} {n : Nat} {p : Nat → Bool} (h : w.ownsRow base T 1 v (n + 1) (rowF (fun j => .bool (p j)) n ++ [.bool true])) :
    ∃ g cap, v = .slice (some ⟨g, 0, none⟩) (n + 1) cap ∧ base ≤ g ∧ g < w.heap.size ∧ n + 1 ≤ cap ∧ Bools w (some ⟨g, 0, none⟩) n p := by
  have e : rowF (fun j => Value.bool (p j)) n ++ [Value.bool true] = rowF (fun j => .bool (if j < n then p j else true)) (n + 1) := by
    rw [rowF_succ]
    congr 1
    · unfold rowF
      apply List.map_congr_left
      intro j hj
      simp only [List.mem_range] at hj
      rw [if_pos hj]
    · simp
  rw [e] at h
  obtain ⟨g, cap, rfl, h1, h2, h3, h4⟩ := own_row h (by omega)
  exact ⟨g, cap, rfl, h1, h2, h3, fun j hj => by obtain ⟨b, off, e1, e2⟩ := h4 j (by omega); exact ⟨b, off, e1, by rw [e2]; simp only [if_pos hj]⟩⟩

set_option maxHeartbeats 1600000 in
theorem next_walk (ao : Option Addr) (len cap : Nat) (p : Nat → Bool) (pick task : Int) (w : World) (hm : len ≤ 9223372036854775807) (hp : -9223372036854775808 ≤ pick ∧ pick ≤ 9223372036854775807) (ht : -9223372036854775808 ≤ task ∧ task ≤ 9223372036854775807)
    (hnone : ao = none → len = 0 ∧ cap = 0) (hc : Bools w ao len p) :
    Calls Try.prog 4 #[.slice ao len cap, .int .i64 pick, .int .i64 task] w fun e w' => e = .returned (.bool true) ∧ Below w.heap.size w w' := by
  by_cases h1 : 2000 < len
  · go_enter Try.func4, Try.ntmps4
    go_wp2_with fail
    refine (known_ok w).mono ?_
    rintro e w' ⟨rfl, hB⟩
    go_wp2
    go_ret
    exact ⟨rfl, hB⟩
  · obtain ⟨i0, hi, hz0, hz1, hz2⟩ := info_parts Try.info4
    have hsrc := CellsAt.src hc.cells
    have HN := hide hnone
    clear hnone
    go_enter Try.func4, Try.ntmps4
    go_wp2_with (first
      | (at_builtin; refine wpList_append_src rfl (.const (.slice none 0 0)) (.tmp 21) 22 rfl w.heap.size 4 i0 (.bool false) 1 1 Try.underlying22 hi hz0 hz1 hz2 rfl (by decide) _ _ _ rfl (World.ownsRow_nil _ _ _ _) ao len cap (rowF (fun j => .bool (p j)) len) rfl (by simp) HN.out hsrc (rowF_one _ _ (fun _ => rfl)) (by unfold maxLen; omega) (by omega) (Nat.le_refl _) ?_; intro v1 w1 hown1 hgrow1; simp only [Nat.zero_add, List.nil_append] at hown1; have hB1 : Below w.heap.size w w1 := (Below.refl _ _).grown hgrow1 (Nat.le_refl _) (fun j hj => ((World.ownsRow_nil w w.heap.size 4 1).lt j hj).1); have hs1 := hB1.size)
      | (at_builtin; refine wpList_append_src rfl (.tmp 22) (.tmp 23) 22 rfl w.heap.size 4 i0 (.bool false) 1 1 Try.underlying22 hi hz0 hz1 hz2 rfl (by decide) _ _ _ rfl (hown1.alloc _) (some ⟨w1.heap.size, 0, none⟩) 1 1 [.bool true] rfl rfl (by intro h; cases h) (by intro ad had; injection had with had; subst had; exact cell_one_new _ _ _) (one_cell _ rfl) (by unfold maxLen; omega) (by omega) (by simp; omega) ?_; intro v2 w2 hown2 hgrow2; have hnx := mrow_facts hown2; obtain ⟨g, cap2, rfl, hg1, hg2, hg3, hcm⟩ := hnx))
    have hB2 : Below w.heap.size w w2 := (hB1.alloc hs1 _).grown hgrow2 (by simp; omega) (fun j hj => (hown1.lt j hj).1)
    have hba : Bools w2 ao len p := hc.below hB2
    have hs2 := hB2.size
    clear hown1 hown2 hgrow1 hgrow2 hB1 hc hsrc hs1
    refine (Next_any _ len cap2 p pick w2 (by omega) (by omega) hcm).mono ?_
    rintro e w3 ⟨rfl, hB3⟩
    have hba3 := hba.below hB3
    have hcm3 := hcm.below hB3
    have hB3' := hB2.trans (hB3.mono hs2)
    clear hba hcm hB2 hB3
    go_wp2_with fail
    refine (refNext_any ao len cap p pick w3 (by omega) (by omega) hba3).mono ?_
    rintro e w4 ⟨rfl, rfl⟩
    go_wp2_with fail
    refine (Pick_any _ len cap2 p task w3 (by omega) ht hcm3).mono ?_
    rintro e w4 ⟨rfl, hB4⟩
    have hba4 := hba3.below hB4
    have hcm4 := hcm3.below hB4
    have hB4' := hB3'.trans (hB4.mono hB3'.size)
    clear hba3 hcm3 hB4 hB3'
    go_wp2_with fail
    refine (refPick_any ao len cap p task w4 (by omega) ht hba4).mono ?_
    rintro e w5 ⟨rfl, rfl⟩
    generalize hx1 : nxT p len pick = x1
    generalize hx2 : nxE p len pick = x2
    generalize hx3 : pkP p len task = x3
    generalize hx4 : pkE p len task = x4
    clear hx1 hx2 hx3 hx4
    go_wp2_with fail
    go_loopw [16] (fun i wr => ∃ k : Nat, k ≤ len ∧ i = .int .i64 k ∧ Bools wr ao len p ∧ Bools wr (some ⟨g, 0, none⟩) len p ∧ Below w.heap.size w wr) (fun i _ => len - (intOf i).toNat)
    case atStart => exact ⟨0, Nat.zero_le _, rfl, hba4, hcm4, hB4'⟩
    case round =>
      clear hba4 hcm4 hB4'
      obtain ⟨k, hk, rfl, hba, hcm, hB⟩ := hrel
      by_cases hlt : k < len
      · obtain ⟨b, off, rfl, hcx⟩ := hba k hlt
        obtain ⟨b', off', he, hcy⟩ := hcm k hlt
        injection he with he
        injection he with he1 he2
        subst he1 he2
        rw [Nat.zero_add] at hcy
        have hbb : (p k != p k) = false := by simp
        have Hba : Hid (∀ n, Bools (wr.drewN n) (some ⟨b, off, none⟩) len p) := hide (fun n => hba)
        have Hcm : Hid (∀ n, Bools (wr.drewN n) (some ⟨g, 0, none⟩) len p) := hide (fun n => hcm)
        clear hba hcm
        go_wp2_with fail
        go_quiet (fail)
        go_wp2
        go_roundw
        case rel => exact ⟨k + 1, by omega, by go_num, Hba.out _, Hcm.out _, belowDrewN hB _⟩
        case measure => simp [intOf]; omega
      · have hb1 : (x1 == x1) = true := by simp
        have hb2 : (x2 == x2) = true := by simp
        have hb3 : (x3 == x3) = true := by simp
        have hb4 : (x4 == x4) = true := by simp
        go_wp2_with fail
        refine (known_ok wr).mono ?_
        rintro e w6 ⟨rfl, hB6⟩
        go_wp2
        go_ret
        exact ⟨rfl, hB.trans (hB6.mono hB.size)⟩
end Go.Proofs.Ytcdphilgnlcahaa
