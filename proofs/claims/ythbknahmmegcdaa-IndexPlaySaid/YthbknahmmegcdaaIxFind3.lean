/- Walks of index's Find, At. (Written by wip/genixfind3.py.) -/
import Derived.Test.YthbknahmmegcdaaIxFind2
namespace Go.Proofs.Ythbknahmmegcdaa
open Go.RowKit

theorem last_zero (k : Nat) (cb : Value) {w : World} {g : Nat} {v : Value} (h : BoxI w g 0 v) : Calls Try.prog 33 #[.pointer (some ⟨g, 0, none⟩), .func (.func k) #[] #[cb]] w fun e w' => e = .returned (.tuple #[.agg (spotV ⟨0, 0⟩), .bool false]) ∧ Below w.heap.size w w' := by
  have HB := hide ((((Below.refl w.heap.size w).alloc (Nat.le_refl _) (.cells #[.pointer (some ⟨g, 0, none⟩)] 24)).alloc (by simp) (.cells #[.func (.func k) #[] #[cb]] 65)).alloc (by simp; omega) (.cells #[.int .i64 0, .int .i64 0] 31))
  have HN := hide (none_ok (h.same HB.out))
  unfold spotV
  clear h
  go_enter Try.func33, Try.ntmps33
  go_wp2_with (go_at_call 26; refine HN.out.mono ?_; rintro e w' ⟨rfl, rfl⟩)
  go_returns
  exact ⟨rfl, HB.out⟩

set_option maxHeartbeats 1600000 in
theorem Find_ok (x : Int) {w : World} {base g : Nat} {st : Int} {l : List S2} {v : Value} (h : IxAt w base g st l v) (hst : st ≠ 0) (hn : l.length ≤ 4611686018427387904)
    (hmono : ∀ a b, a ≤ b → b < l.length → (l.getD a default).o ≤ (l.getD b default).o) :
    Calls Try.prog 15 #[.pointer (some ⟨g, 0, none⟩), .int .i64 x] w fun e w' => e = .returned (.tuple #[.agg (spotV (lastR (fun s => decide (x < s.o)) l)), .bool (lastB (fun s => decide (x < s.o)) l)]) ∧ Below w.heap.size w w' := by
  have hb1 := (Below.refl w.heap.size w).alloc (Nat.le_refl _) (.cells #[.int .i64 x] 2)
  have hb2 := hb1.alloc (by simp) (.cells #[.int .i64 0, .int .i64 0] 31)
  have k1 : (w.alloc (.cells #[.int .i64 x] 2)).heap.size = w.heap.size + 1 := by simp
  obtain ⟨w0, hw0⟩ : ∃ w0, w0 = (w.alloc (.cells #[.int .i64 x] 2)).alloc (.cells #[.int .i64 0, .int .i64 0] 31) := ⟨_, rfl⟩
  have hbR : w0.heap[w.heap.size + 1]? = some (.cells #[.int .i64 0, .int .i64 0] 31 (0, 0)) := by rw [hw0, ← k1]; exact heap_alloc_new _ _
  have hbX : w0.heap[w.heap.size]? = some (.cells #[.int .i64 x] 2 (0, 0)) := by
    rw [hw0]
    exact (((Below.refl _ _).alloc (Nat.le_refl _) _).block w.heap.size (by simp)).trans (heap_alloc_new w _)
  rw [← hw0] at hb2
  have HC : Hid (w0.cell? ⟨w.heap.size, 0, none⟩ = some (.int .i64 x)) := hide (by rw [cell_of_row _ _ _ _ _ _ hbX]; rfl)
  have HR := hide (fun (w' : World) (hB : Below w0.heap.size w0 w') => (hB.block (w.heap.size + 1) (Array.getElem?_eq_some_iff.1 hbR).1).trans hbR)
  have HB0 := hide hb2
  have HL := hide (last_find w.heap.size x (h.call hb2) hst hn HC.out hmono)
  obtain ⟨S, hS⟩ : ∃ S, S = lastR (fun s => decide (x < s.o)) l := ⟨_, rfl⟩
  obtain ⟨rb, hrb⟩ : ∃ S, S = lastB (fun s => decide (x < s.o)) l := ⟨_, rfl⟩
  rw [← hS, ← hrb] at HL ⊢
  clear h hS hrb hmono
  obtain ⟨so, sp⟩ := S
  clear hb1 hb2 k1 hbR hbX
  unfold spotV at HL ⊢
  go_enter Try.func15, Try.ntmps15
  go_upto_region 1 with fail
  rw [← hw0]
  clear hw0
  go_wp2_with fail
  refine HL.out.mono ?_
  rintro e w1 ⟨rfl, hB⟩
  have HB1 := hide (HB0.out.trans (hB.mono HB0.out.size))
  have HRR : Hid (w1.heap[w.heap.size + 1]? = some (.cells #[.int .i64 0, .int .i64 0] 31 (0, 0))) := hide (HR.out w1 hB)
  clear hB HR HL
  have r0 : w1.cell? ⟨w.heap.size + 1, 0, none⟩ = some (.int .i64 0) := by rw [cell_of_row _ _ _ _ _ _ HRR.out]; rfl
  have r1 : w1.cell? ⟨w.heap.size + 1, 1, none⟩ = some (.int .i64 0) := by rw [cell_of_row _ _ _ _ _ _ HRR.out]; rfl
  have f0 : w1.frozen? ⟨w.heap.size + 1, 0, none⟩ = false := frozen_of_row _ _ _ _ _ HRR.out
  have f1 : w1.frozen? ⟨w.heap.size + 1, 1, none⟩ = false := frozen_of_row _ _ _ _ _ HRR.out
  have HBE := hide ((HB1.out.setCell (p := ⟨w.heap.size + 1, 0, none⟩) (by show w.heap.size ≤ w.heap.size + 1; omega) (.int .i64 so)).setCell (p := ⟨w.heap.size + 1, 1, none⟩) (by show w.heap.size ≤ w.heap.size + 1; omega) (.int .i64 sp))
  obtain ⟨_, g2, g3⟩ := set_two HRR.out (.int .i64 so) (.int .i64 sp)
  go_wp2_with fail
  (try simp only [Exit.inBlock, Exit.then])
  refine bodyPost_ret (by simp [results, Try.results15, go_sem, g2, g3]; try rfl) rfl ?_
  exact ⟨rfl, HBE.out⟩

set_option maxHeartbeats 1600000 in
theorem Find_nil (x : Int) (w : World) :
    Calls Try.prog 15 #[.pointer none, .int .i64 x] w fun e w' => e = .returned (.tuple #[.agg (spotV ⟨0, 0⟩), .bool false]) ∧ Below w.heap.size w w' := by
  have hb1 := (Below.refl w.heap.size w).alloc (Nat.le_refl _) (.cells #[.int .i64 x] 2)
  have hb2 := hb1.alloc (by simp) (.cells #[.int .i64 0, .int .i64 0] 31)
  have k1 : (w.alloc (.cells #[.int .i64 x] 2)).heap.size = w.heap.size + 1 := by simp
  obtain ⟨w0, hw0⟩ : ∃ w0, w0 = (w.alloc (.cells #[.int .i64 x] 2)).alloc (.cells #[.int .i64 0, .int .i64 0] 31) := ⟨_, rfl⟩
  have hbR : w0.heap[w.heap.size + 1]? = some (.cells #[.int .i64 0, .int .i64 0] 31 (0, 0)) := by rw [hw0, ← k1]; exact heap_alloc_new _ _
  have hbX : w0.heap[w.heap.size]? = some (.cells #[.int .i64 x] 2 (0, 0)) := by
    rw [hw0]
    exact (((Below.refl _ _).alloc (Nat.le_refl _) _).block w.heap.size (by simp)).trans (heap_alloc_new w _)
  rw [← hw0] at hb2
  have HC : Hid (w0.cell? ⟨w.heap.size, 0, none⟩ = some (.int .i64 x)) := hide (by rw [cell_of_row _ _ _ _ _ _ hbX]; rfl)
  have HR := hide (fun (w' : World) (hB : Below w0.heap.size w0 w') => (hB.block (w.heap.size + 1) (Array.getElem?_eq_some_iff.1 hbR).1).trans hbR)
  have HB0 := hide hb2
  have HL := hide (last_nil 34 (.pointer (some ⟨w.heap.size, 0, none⟩)) w0)
  clear hb1 hb2 k1 hbR hbX
  unfold spotV at HL ⊢
  go_enter Try.func15, Try.ntmps15
  go_upto_region 1 with fail
  rw [← hw0]
  clear hw0
  go_wp2_with fail
  refine HL.out.mono ?_
  rintro e w1 ⟨rfl, hB⟩
  have HB1 := hide (HB0.out.trans (hB.mono HB0.out.size))
  have HRR : Hid (w1.heap[w.heap.size + 1]? = some (.cells #[.int .i64 0, .int .i64 0] 31 (0, 0))) := hide (HR.out w1 hB)
  clear hB HR HL
  have r0 : w1.cell? ⟨w.heap.size + 1, 0, none⟩ = some (.int .i64 0) := by rw [cell_of_row _ _ _ _ _ _ HRR.out]; rfl
  have r1 : w1.cell? ⟨w.heap.size + 1, 1, none⟩ = some (.int .i64 0) := by rw [cell_of_row _ _ _ _ _ _ HRR.out]; rfl
  have f0 : w1.frozen? ⟨w.heap.size + 1, 0, none⟩ = false := frozen_of_row _ _ _ _ _ HRR.out
  have f1 : w1.frozen? ⟨w.heap.size + 1, 1, none⟩ = false := frozen_of_row _ _ _ _ _ HRR.out
  have HBE := hide ((HB1.out.setCell (p := ⟨w.heap.size + 1, 0, none⟩) (by show w.heap.size ≤ w.heap.size + 1; omega) (.int .i64 0)).setCell (p := ⟨w.heap.size + 1, 1, none⟩) (by show w.heap.size ≤ w.heap.size + 1; omega) (.int .i64 0))
  obtain ⟨_, g2, g3⟩ := set_two HRR.out (.int .i64 0) (.int .i64 0)
  go_wp2_with fail
  (try simp only [Exit.inBlock, Exit.then])
  refine bodyPost_ret (by simp [results, Try.results15, go_sem, g2, g3]; try rfl) rfl ?_
  exact ⟨rfl, HBE.out⟩

set_option maxHeartbeats 1600000 in
theorem Find_zero (x : Int) {w : World} {g : Nat} {v : Value} (h : BoxI w g 0 v) :
    Calls Try.prog 15 #[.pointer (some ⟨g, 0, none⟩), .int .i64 x] w fun e w' => e = .returned (.tuple #[.agg (spotV ⟨0, 0⟩), .bool false]) ∧ Below w.heap.size w w' := by
  have hb1 := (Below.refl w.heap.size w).alloc (Nat.le_refl _) (.cells #[.int .i64 x] 2)
  have hb2 := hb1.alloc (by simp) (.cells #[.int .i64 0, .int .i64 0] 31)
  have k1 : (w.alloc (.cells #[.int .i64 x] 2)).heap.size = w.heap.size + 1 := by simp
  obtain ⟨w0, hw0⟩ : ∃ w0, w0 = (w.alloc (.cells #[.int .i64 x] 2)).alloc (.cells #[.int .i64 0, .int .i64 0] 31) := ⟨_, rfl⟩
  have hbR : w0.heap[w.heap.size + 1]? = some (.cells #[.int .i64 0, .int .i64 0] 31 (0, 0)) := by rw [hw0, ← k1]; exact heap_alloc_new _ _
  have hbX : w0.heap[w.heap.size]? = some (.cells #[.int .i64 x] 2 (0, 0)) := by
    rw [hw0]
    exact (((Below.refl _ _).alloc (Nat.le_refl _) _).block w.heap.size (by simp)).trans (heap_alloc_new w _)
  rw [← hw0] at hb2
  have HC : Hid (w0.cell? ⟨w.heap.size, 0, none⟩ = some (.int .i64 x)) := hide (by rw [cell_of_row _ _ _ _ _ _ hbX]; rfl)
  have HR := hide (fun (w' : World) (hB : Below w0.heap.size w0 w') => (hB.block (w.heap.size + 1) (Array.getElem?_eq_some_iff.1 hbR).1).trans hbR)
  have HB0 := hide hb2
  have HL := hide (last_zero 34 (.pointer (some ⟨w.heap.size, 0, none⟩)) (h.same hb2))
  clear h
  clear hb1 hb2 k1 hbR hbX
  unfold spotV at HL ⊢
  go_enter Try.func15, Try.ntmps15
  go_upto_region 1 with fail
  rw [← hw0]
  clear hw0
  go_wp2_with fail
  refine HL.out.mono ?_
  rintro e w1 ⟨rfl, hB⟩
  have HB1 := hide (HB0.out.trans (hB.mono HB0.out.size))
  have HRR : Hid (w1.heap[w.heap.size + 1]? = some (.cells #[.int .i64 0, .int .i64 0] 31 (0, 0))) := hide (HR.out w1 hB)
  clear hB HR HL
  have r0 : w1.cell? ⟨w.heap.size + 1, 0, none⟩ = some (.int .i64 0) := by rw [cell_of_row _ _ _ _ _ _ HRR.out]; rfl
  have r1 : w1.cell? ⟨w.heap.size + 1, 1, none⟩ = some (.int .i64 0) := by rw [cell_of_row _ _ _ _ _ _ HRR.out]; rfl
  have f0 : w1.frozen? ⟨w.heap.size + 1, 0, none⟩ = false := frozen_of_row _ _ _ _ _ HRR.out
  have f1 : w1.frozen? ⟨w.heap.size + 1, 1, none⟩ = false := frozen_of_row _ _ _ _ _ HRR.out
  have HBE := hide ((HB1.out.setCell (p := ⟨w.heap.size + 1, 0, none⟩) (by show w.heap.size ≤ w.heap.size + 1; omega) (.int .i64 0)).setCell (p := ⟨w.heap.size + 1, 1, none⟩) (by show w.heap.size ≤ w.heap.size + 1; omega) (.int .i64 0))
  obtain ⟨_, g2, g3⟩ := set_two HRR.out (.int .i64 0) (.int .i64 0)
  go_wp2_with fail
  (try simp only [Exit.inBlock, Exit.then])
  refine bodyPost_ret (by simp [results, Try.results15, go_sem, g2, g3]; try rfl) rfl ?_
  exact ⟨rfl, HBE.out⟩

set_option maxHeartbeats 1600000 in
theorem At_ok (x : Int) {w : World} {base g : Nat} {st : Int} {l : List S2} {v : Value} (h : IxAt w base g st l v) (hst : st ≠ 0) (hn : l.length ≤ 4611686018427387904)
    (hmono : ∀ a b, a ≤ b → b < l.length → (l.getD a default).p ≤ (l.getD b default).p) :
    Calls Try.prog 18 #[.pointer (some ⟨g, 0, none⟩), .int .i64 x] w fun e w' => e = .returned (.tuple #[.agg (spotV (lastR (fun s => decide (x < s.p)) l)), .bool (lastB (fun s => decide (x < s.p)) l)]) ∧ Below w.heap.size w w' := by
  have hb1 := (Below.refl w.heap.size w).alloc (Nat.le_refl _) (.cells #[.int .i64 x] 3)
  have hb2 := hb1.alloc (by simp) (.cells #[.int .i64 0, .int .i64 0] 31)
  have k1 : (w.alloc (.cells #[.int .i64 x] 3)).heap.size = w.heap.size + 1 := by simp
  obtain ⟨w0, hw0⟩ : ∃ w0, w0 = (w.alloc (.cells #[.int .i64 x] 3)).alloc (.cells #[.int .i64 0, .int .i64 0] 31) := ⟨_, rfl⟩
  have hbR : w0.heap[w.heap.size + 1]? = some (.cells #[.int .i64 0, .int .i64 0] 31 (0, 0)) := by rw [hw0, ← k1]; exact heap_alloc_new _ _
  have hbX : w0.heap[w.heap.size]? = some (.cells #[.int .i64 x] 3 (0, 0)) := by
    rw [hw0]
    exact (((Below.refl _ _).alloc (Nat.le_refl _) _).block w.heap.size (by simp)).trans (heap_alloc_new w _)
  rw [← hw0] at hb2
  have HC : Hid (w0.cell? ⟨w.heap.size, 0, none⟩ = some (.int .i64 x)) := hide (by rw [cell_of_row _ _ _ _ _ _ hbX]; rfl)
  have HR := hide (fun (w' : World) (hB : Below w0.heap.size w0 w') => (hB.block (w.heap.size + 1) (Array.getElem?_eq_some_iff.1 hbR).1).trans hbR)
  have HB0 := hide hb2
  have HL := hide (last_at w.heap.size x (h.call hb2) hst hn HC.out hmono)
  obtain ⟨S, hS⟩ : ∃ S, S = lastR (fun s => decide (x < s.p)) l := ⟨_, rfl⟩
  obtain ⟨rb, hrb⟩ : ∃ S, S = lastB (fun s => decide (x < s.p)) l := ⟨_, rfl⟩
  rw [← hS, ← hrb] at HL ⊢
  clear h hS hrb hmono
  obtain ⟨so, sp⟩ := S
  clear hb1 hb2 k1 hbR hbX
  unfold spotV at HL ⊢
  go_enter Try.func18, Try.ntmps18
  go_upto_region 1 with fail
  rw [← hw0]
  clear hw0
  go_wp2_with fail
  refine HL.out.mono ?_
  rintro e w1 ⟨rfl, hB⟩
  have HB1 := hide (HB0.out.trans (hB.mono HB0.out.size))
  have HRR : Hid (w1.heap[w.heap.size + 1]? = some (.cells #[.int .i64 0, .int .i64 0] 31 (0, 0))) := hide (HR.out w1 hB)
  clear hB HR HL
  have r0 : w1.cell? ⟨w.heap.size + 1, 0, none⟩ = some (.int .i64 0) := by rw [cell_of_row _ _ _ _ _ _ HRR.out]; rfl
  have r1 : w1.cell? ⟨w.heap.size + 1, 1, none⟩ = some (.int .i64 0) := by rw [cell_of_row _ _ _ _ _ _ HRR.out]; rfl
  have f0 : w1.frozen? ⟨w.heap.size + 1, 0, none⟩ = false := frozen_of_row _ _ _ _ _ HRR.out
  have f1 : w1.frozen? ⟨w.heap.size + 1, 1, none⟩ = false := frozen_of_row _ _ _ _ _ HRR.out
  have HBE := hide ((HB1.out.setCell (p := ⟨w.heap.size + 1, 0, none⟩) (by show w.heap.size ≤ w.heap.size + 1; omega) (.int .i64 so)).setCell (p := ⟨w.heap.size + 1, 1, none⟩) (by show w.heap.size ≤ w.heap.size + 1; omega) (.int .i64 sp))
  obtain ⟨_, g2, g3⟩ := set_two HRR.out (.int .i64 so) (.int .i64 sp)
  go_wp2_with fail
  (try simp only [Exit.inBlock, Exit.then])
  refine bodyPost_ret (by simp [results, Try.results18, go_sem, g2, g3]; try rfl) rfl ?_
  exact ⟨rfl, HBE.out⟩

set_option maxHeartbeats 1600000 in
theorem At_nil (x : Int) (w : World) :
    Calls Try.prog 18 #[.pointer none, .int .i64 x] w fun e w' => e = .returned (.tuple #[.agg (spotV ⟨0, 0⟩), .bool false]) ∧ Below w.heap.size w w' := by
  have hb1 := (Below.refl w.heap.size w).alloc (Nat.le_refl _) (.cells #[.int .i64 x] 3)
  have hb2 := hb1.alloc (by simp) (.cells #[.int .i64 0, .int .i64 0] 31)
  have k1 : (w.alloc (.cells #[.int .i64 x] 3)).heap.size = w.heap.size + 1 := by simp
  obtain ⟨w0, hw0⟩ : ∃ w0, w0 = (w.alloc (.cells #[.int .i64 x] 3)).alloc (.cells #[.int .i64 0, .int .i64 0] 31) := ⟨_, rfl⟩
  have hbR : w0.heap[w.heap.size + 1]? = some (.cells #[.int .i64 0, .int .i64 0] 31 (0, 0)) := by rw [hw0, ← k1]; exact heap_alloc_new _ _
  have hbX : w0.heap[w.heap.size]? = some (.cells #[.int .i64 x] 3 (0, 0)) := by
    rw [hw0]
    exact (((Below.refl _ _).alloc (Nat.le_refl _) _).block w.heap.size (by simp)).trans (heap_alloc_new w _)
  rw [← hw0] at hb2
  have HC : Hid (w0.cell? ⟨w.heap.size, 0, none⟩ = some (.int .i64 x)) := hide (by rw [cell_of_row _ _ _ _ _ _ hbX]; rfl)
  have HR := hide (fun (w' : World) (hB : Below w0.heap.size w0 w') => (hB.block (w.heap.size + 1) (Array.getElem?_eq_some_iff.1 hbR).1).trans hbR)
  have HB0 := hide hb2
  have HL := hide (last_nil 37 (.pointer (some ⟨w.heap.size, 0, none⟩)) w0)
  clear hb1 hb2 k1 hbR hbX
  unfold spotV at HL ⊢
  go_enter Try.func18, Try.ntmps18
  go_upto_region 1 with fail
  rw [← hw0]
  clear hw0
  go_wp2_with fail
  refine HL.out.mono ?_
  rintro e w1 ⟨rfl, hB⟩
  have HB1 := hide (HB0.out.trans (hB.mono HB0.out.size))
  have HRR : Hid (w1.heap[w.heap.size + 1]? = some (.cells #[.int .i64 0, .int .i64 0] 31 (0, 0))) := hide (HR.out w1 hB)
  clear hB HR HL
  have r0 : w1.cell? ⟨w.heap.size + 1, 0, none⟩ = some (.int .i64 0) := by rw [cell_of_row _ _ _ _ _ _ HRR.out]; rfl
  have r1 : w1.cell? ⟨w.heap.size + 1, 1, none⟩ = some (.int .i64 0) := by rw [cell_of_row _ _ _ _ _ _ HRR.out]; rfl
  have f0 : w1.frozen? ⟨w.heap.size + 1, 0, none⟩ = false := frozen_of_row _ _ _ _ _ HRR.out
  have f1 : w1.frozen? ⟨w.heap.size + 1, 1, none⟩ = false := frozen_of_row _ _ _ _ _ HRR.out
  have HBE := hide ((HB1.out.setCell (p := ⟨w.heap.size + 1, 0, none⟩) (by show w.heap.size ≤ w.heap.size + 1; omega) (.int .i64 0)).setCell (p := ⟨w.heap.size + 1, 1, none⟩) (by show w.heap.size ≤ w.heap.size + 1; omega) (.int .i64 0))
  obtain ⟨_, g2, g3⟩ := set_two HRR.out (.int .i64 0) (.int .i64 0)
  go_wp2_with fail
  (try simp only [Exit.inBlock, Exit.then])
  refine bodyPost_ret (by simp [results, Try.results18, go_sem, g2, g3]; try rfl) rfl ?_
  exact ⟨rfl, HBE.out⟩

set_option maxHeartbeats 1600000 in
theorem At_zero (x : Int) {w : World} {g : Nat} {v : Value} (h : BoxI w g 0 v) :
    Calls Try.prog 18 #[.pointer (some ⟨g, 0, none⟩), .int .i64 x] w fun e w' => e = .returned (.tuple #[.agg (spotV ⟨0, 0⟩), .bool false]) ∧ Below w.heap.size w w' := by
  have hb1 := (Below.refl w.heap.size w).alloc (Nat.le_refl _) (.cells #[.int .i64 x] 3)
  have hb2 := hb1.alloc (by simp) (.cells #[.int .i64 0, .int .i64 0] 31)
  have k1 : (w.alloc (.cells #[.int .i64 x] 3)).heap.size = w.heap.size + 1 := by simp
  obtain ⟨w0, hw0⟩ : ∃ w0, w0 = (w.alloc (.cells #[.int .i64 x] 3)).alloc (.cells #[.int .i64 0, .int .i64 0] 31) := ⟨_, rfl⟩
  have hbR : w0.heap[w.heap.size + 1]? = some (.cells #[.int .i64 0, .int .i64 0] 31 (0, 0)) := by rw [hw0, ← k1]; exact heap_alloc_new _ _
  have hbX : w0.heap[w.heap.size]? = some (.cells #[.int .i64 x] 3 (0, 0)) := by
    rw [hw0]
    exact (((Below.refl _ _).alloc (Nat.le_refl _) _).block w.heap.size (by simp)).trans (heap_alloc_new w _)
  rw [← hw0] at hb2
  have HC : Hid (w0.cell? ⟨w.heap.size, 0, none⟩ = some (.int .i64 x)) := hide (by rw [cell_of_row _ _ _ _ _ _ hbX]; rfl)
  have HR := hide (fun (w' : World) (hB : Below w0.heap.size w0 w') => (hB.block (w.heap.size + 1) (Array.getElem?_eq_some_iff.1 hbR).1).trans hbR)
  have HB0 := hide hb2
  have HL := hide (last_zero 37 (.pointer (some ⟨w.heap.size, 0, none⟩)) (h.same hb2))
  clear h
  clear hb1 hb2 k1 hbR hbX
  unfold spotV at HL ⊢
  go_enter Try.func18, Try.ntmps18
  go_upto_region 1 with fail
  rw [← hw0]
  clear hw0
  go_wp2_with fail
  refine HL.out.mono ?_
  rintro e w1 ⟨rfl, hB⟩
  have HB1 := hide (HB0.out.trans (hB.mono HB0.out.size))
  have HRR : Hid (w1.heap[w.heap.size + 1]? = some (.cells #[.int .i64 0, .int .i64 0] 31 (0, 0))) := hide (HR.out w1 hB)
  clear hB HR HL
  have r0 : w1.cell? ⟨w.heap.size + 1, 0, none⟩ = some (.int .i64 0) := by rw [cell_of_row _ _ _ _ _ _ HRR.out]; rfl
  have r1 : w1.cell? ⟨w.heap.size + 1, 1, none⟩ = some (.int .i64 0) := by rw [cell_of_row _ _ _ _ _ _ HRR.out]; rfl
  have f0 : w1.frozen? ⟨w.heap.size + 1, 0, none⟩ = false := frozen_of_row _ _ _ _ _ HRR.out
  have f1 : w1.frozen? ⟨w.heap.size + 1, 1, none⟩ = false := frozen_of_row _ _ _ _ _ HRR.out
  have HBE := hide ((HB1.out.setCell (p := ⟨w.heap.size + 1, 0, none⟩) (by show w.heap.size ≤ w.heap.size + 1; omega) (.int .i64 0)).setCell (p := ⟨w.heap.size + 1, 1, none⟩) (by show w.heap.size ≤ w.heap.size + 1; omega) (.int .i64 0))
  obtain ⟨_, g2, g3⟩ := set_two HRR.out (.int .i64 0) (.int .i64 0)
  go_wp2_with fail
  (try simp only [Exit.inBlock, Exit.then])
  refine bodyPost_ret (by simp [results, Try.results18, go_sem, g2, g3]; try rfl) rfl ?_
  exact ⟨rfl, HBE.out⟩
end Go.Proofs.Ythbknahmmegcdaa
