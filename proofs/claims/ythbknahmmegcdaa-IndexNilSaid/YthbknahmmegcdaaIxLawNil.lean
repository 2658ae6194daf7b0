/- IndexNil: indexes that are not there, and zero ones. -/
import Derived.Test.YthbknahmmegcdaaIxNone2
namespace Go.Proofs.Ythbknahmmegcdaa
open Go.RowKit

set_option maxHeartbeats 1600000 in
theorem nil_walk (x : Int) (s : S2) (w : World) :
    Calls Try.prog 6 #[.int .i64 x, .agg (spotV s)] w fun e w' => e = .returned (.bool true) ∧ Below w.heap.size w w' := by
  obtain ⟨so, sp⟩ := s
  obtain ⟨w0, hw0⟩ : ∃ w0, w0 = w.alloc (.cells #[.int .i64 so, .int .i64 sp] 31) := ⟨_, rfl⟩
  have hb : BoxS w0 w.heap.size ⟨so, sp⟩ := by rw [hw0]; exact heap_alloc_new w _
  have hB : Below w.heap.size w w0 := by rw [hw0]; exact (Below.refl _ _).alloc (Nat.le_refl _) _
  have HBX := hide hb
  have HB0 := hide hB
  have HW := hide (fun (wr : World) (a : Option Addr) (h : NC wr a) => none_walk a x ⟨so, sp⟩ wr h)
  unfold spotV at HW ⊢
  obtain ⟨b0, b1⟩ := hb.cells
  clear hb hB
  go_enter Try.func6, Try.ntmps6
  go_upto_region 1 with fail
  rw [← hw0]
  clear hw0
  go_wp2_with fail
  refine (HW.out w0 none (NC.nil w0)).mono ?_
  rintro e w1 ⟨rfl, hB⟩
  have HB1 := hide (HB0.out.trans (hB.mono HB0.out.size))
  have HBX1 := hide (HBX.out.same hB)
  clear hB b0 b1
  have HB2 := hide (HB1.out.alloc HB1.out.size (.cells #[.int .i64 0, .slice none 0 0] 55))
  have HBI := hide (BoxI.new w1 0 (.slice none 0 0))
  have HBX2 := hide (HBX1.out.same ((Below.refl w1.heap.size w1).alloc (Nat.le_refl _) (.cells #[.int .i64 0, .slice none 0 0] 55)))
  obtain ⟨c0, c1⟩ := HBX2.out.cells
  obtain ⟨b0, b1⟩ := HBX1.out.cells
  go_wp2_with fail
  refine (HW.out _ _ (NC.zero HBI.out)).mono ?_
  rintro e w2 ⟨rfl, hB⟩
  have HB3 := hide (HB2.out.trans (hB.mono HB2.out.size))
  clear hB c0 c1 b0 b1
  go_wp2_with fail
  refine (known_ok w2).mono ?_
  rintro e w3 ⟨rfl, hB⟩
  go_wp2
  go_ret
  exact ⟨rfl, HB3.out.trans (hB.mono HB3.out.size)⟩
end Go.Proofs.Ythbknahmmegcdaa
