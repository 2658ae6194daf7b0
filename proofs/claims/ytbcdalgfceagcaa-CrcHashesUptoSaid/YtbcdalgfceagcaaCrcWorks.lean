/- Walks of num and works. -/
import Derived.Test.YtbcdalgfceagcaaCrcOpen
namespace Go.Proofs.Ytbcdalgfceagcaa
open Go.RowKit

theorem num_ok (x : Int) (w : World) : Calls Try.prog 13 #[.int .i64 x] w fun e w' => e = .returned (.int .i64 x) ∧ w = w' := by
  go_enter Try.func13, Try.ntmps13
  go_wp2
  go_ret
  exact ⟨rfl, rfl⟩

theorem seal_drop (l : List Nat) : (sealL l).drop l.length = behL (sumL l) := by simp [sealL]
theorem seal_take (l : List Nat) : (sealL l).take l.length = l := by simp [sealL]
theorem known_sum : sumL [49, 50, 51, 52, 53, 54, 55, 56, 57] = 3808858755 := by decide +kernel
theorem known_zeros : notN (stpN (8 * (32 : Int).toNat) 4294967295) = 2324772522 := by decide +kernel
theorem known_ab : strL [97, 98] = { data := #[97, 98] } := by rfl

/-- sealed bytes are opened -/
theorem Open_sealed (v : Value) (base : Nat) (l : List Nat) (w : World) (hm : l.length ≤ 1000000) (hl : ∀ c ∈ l, c < 256) (h : OwnBytes w base v (sealL l)) :
    Calls Try.prog 12 #[v] w fun e w' => ∃ v2, e = .returned (.tuple #[v2, .int .i64 0]) ∧ OwnBytes w' w.heap.size v2 l ∧ Below w.heap.size w w' := by
  obtain ⟨ao, cap, rfl, hcap, _, hb, hao⟩ := h.any
  rw [sealL_length] at *
  obtain ⟨b, off, rfl, _⟩ := hb 0 (by simp)
  refine (Open_four b off cap l.length (sealL l) w (sealL_length l) hm (by simpa using hcap) (sealL_lt l hl) hb).mono ?_
  rintro e w' ⟨h1, h2, hB⟩
  rw [seal_drop, seal_take] at h1
  obtain ⟨v2, he, hv⟩ := h1 rfl
  exact ⟨v2, he, hv, hB⟩

theorem lit_at (w : World) (l : List Nat) (fr : Nat × Nat) : BytesAt (w.alloc (.cells (rowF (byteV l) l.length).toArray 5 fr)) (some ⟨w.heap.size, 0, none⟩) l := by
  intro j hj
  refine ⟨w.heap.size, 0, rfl, ?_⟩
  have := World.news_of_block (heap_alloc_new w (.cells (rowF (byteV l) l.length).toArray 5 fr)) j _ (rowF_get (byteV l) l.length j hj)
  rwa [addr_add] at this

set_option maxHeartbeats 1600000 in
theorem works_ok (w : World) : Calls Try.prog 10 #[] w fun e w' => e = .returned (.bool true) ∧ Below w.heap.size w w' := by
  have kc := fun (w : World) (C : Array Value) (n c : Nat) => Lib.run_convert_bytes_const (P := Try.prog) w 22 5 C n c Try.underlying22 Try.underlying5
  go_enter Try.func10, Try.ntmps10
  go_wp2_with fail
  refine (Seal_ok _ 2 [97, 98] _ (by simp) (by decide) (lit_at w [97, 98] (2, 3))).mono ?_
  rintro e w1 ⟨v, rfl, hv, hB1⟩
  have HV := hide hv
  have HB1 := hide hB1
  clear hv hB1
  go_wp2_with fail
  refine (Open_sealed v _ [97, 98] _ (by simp) (by decide) HV.out).mono ?_
  rintro e w2 ⟨v2, rfl, hv2, hB2⟩
  obtain ⟨ao, cap, rfl, hcap, _, hb, hao⟩ := hv2.any
  have HCA := hide hb
  have HB2 := hide hB2
  have HK := hide known_sum
  have HKZ := hide known_zeros
  clear hb hv2 hB2
  go_wp2_with fail
  have hB2' := ((Below.refl w2.heap.size w2).alloc (Nat.le_refl _) (.cells #[.int .u8 49, .int .u8 50, .int .u8 51, .int .u8 52, .int .u8 53, .int .u8 54, .int .u8 55, .int .u8 56, .int .u8 57] 5 (9, 10))).alloc (by simp) (.cells #[.slice (some ⟨w2.heap.size, 0, none⟩) 9 9] 22)
  have hBX := hB2'
  refine (sum_at (w2.heap.size + 1) (some ⟨w2.heap.size, 0, none⟩) 9 [49, 50, 51, 52, 53, 54, 55, 56, 57] _ (by simp) (by decide) ?_ ?_).mono ?_
  · exact (lit_at w2 [49, 50, 51, 52, 53, 54, 55, 56, 57] (9, 10)).below ((Below.refl _ _).alloc (Nat.le_refl _) _) (Nat.le_refl _)
  · rw [World.cell?_alloc_at _ _ _ _ (by simp)]; rfl
  rw [HK.out]
  rintro e w3 ⟨rfl, hB3⟩
  have hB3' : Below w2.heap.size w2 w3 := hBX.trans (hB3.mono (by simp; omega))
  have hcv : (convert 22 9 (.slice ao 2 cap)).run Try.prog w3 = .ok (.string { data := #[97, 98] }) w3 := by
    have h := conv_ok (HCA.out.below hB3' (Nat.le_refl _)) cap
    rwa [known_ab] at h
  have HB3 := hide hB3'
  clear hB3 hB3' hBX hB2'
  go_wp2_with fail
  refine (num_ok 0 w3).mono ?_
  rintro e w' ⟨rfl, rfl⟩
  go_wp2_with fail
  have HZ := hide (Zeros_ok 32 (by omega) w3)
  refine HZ.out.mono ?_
  rw [HKZ.out]
  rintro e w4 ⟨rfl, hB4⟩
  go_wp2
  go_ret
  have hA : Below w.heap.size w w1 := ((Below.refl w.heap.size w).alloc (Nat.le_refl _) _).trans (HB1.out.mono (by simp))
  have hC := hA.trans (HB2.out.mono hA.size)
  have hD := hC.trans (HB3.out.mono hC.size)
  exact ⟨rfl, hD.trans (hB4.mono hD.size)⟩
end Go.Proofs.Ytbcdalgfceagcaa
