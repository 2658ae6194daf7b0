/- The walk of crc.Table. -/
import Derived.Test.YtbcdalgfceagcaaCrcTogether
namespace Go.Proofs.Ytbcdalgfceagcaa
open Go.RowKit

/-- 256 numbers, eight steps each -/
def t8 (i : Nat) : Value := .int .u32 (stpN 4 (stpN 4 i) : Nat)
def Z256 : Array Value := Array.replicate 256 (.int .u32 0)
theorem Try.info45 : (Try.prog.info? 45).map (fun i => (i.zero, i.size)) = some (some (.agg Z256), 256) := by kernel_rfl
theorem zero45 (w : World) : (zeroValue 45).run Try.prog w = .ok (.agg Z256) w := by
  have h := Try.info45
  cases hi : Try.prog.info? 45 with
  | none => rw [hi] at h; cases h
  | some i =>
    rw [hi] at h
    simp only [Option.map_some, Option.some.injEq, Prod.mk.injEq] at h
    simp [zeroValue, typeInfo, hi, h.1]

/-- the table under way -/
structure TabSt (w0 w : World) (B g0 g1 g2 k : Nat) (cs : Array Value) : Prop where
  out : w.heap[g0]? = some (.cells Z256 45 (0, 0))
  row : w.heap[g1]? = some (.cells cs 45 (0, 0))
  size : cs.size = 256
  done : ∀ j, j < k → cs[j]? = some (t8 j)
  rest : ∀ j, k ≤ j → j < 256 → cs[j]? = some (.int .u32 0)
  four : ∀ j, j < 16 → w.cell? ⟨g2, j, none⟩ = some (.int .u32 (stpN 4 j : Nat))
  bel : Below B w0 w
theorem TabSt.step {w0 w : World} {B g0 g1 g2 k : Nat} {cs : Array Value} (h : TabSt w0 w B g0 g1 g2 k cs) (hk : k < 256) (h01 : g0 ≠ g1) (h21 : g2 ≠ g1) (hB : B ≤ g1) :
    ∃ cs', TabSt w0 (w.setCell ⟨g1, k, none⟩ (.int .u32 (stpN 4 (stpN 4 k) : Nat))) B g0 g1 g2 (k + 1) cs' := by
  refine ⟨cs.setIfInBounds k (.int .u32 (stpN 4 (stpN 4 k) : Nat)), ?_, ?_, by simpa using h.size, ?_, ?_, ?_, h.bel.setCell (p := ⟨g1, k, none⟩) hB _⟩
  · rw [Below.heap_setCell w ⟨g1, k, none⟩ _ g0 h01]; exact h.out
  · rw [setCell_eq_setRow w g1 k cs _ _ _ h.row]
    exact setRow_heap w g1 cs _ _ _ h.row
  · intro j hj
    by_cases e : j = k
    · subst e; simp [h.size, hk, t8]
    · rw [Array.getElem?_setIfInBounds_ne (by omega)]; exact h.done j (by omega)
  · intro j h1 h2
    rw [Array.getElem?_setIfInBounds_ne (by omega)]; exact h.rest j (by omega) h2
  · intro j hj
    rw [World.cell?_setCell_other w ⟨g1, k, none⟩ ⟨g2, j, none⟩ _ (fun e => h21 (by injection e with e1 _ _; exact e1.symm))]
    exact h.four j hj
theorem TabSt.cell {w0 w : World} {B g0 g1 g2 k : Nat} {cs : Array Value} (h : TabSt w0 w B g0 g1 g2 k cs) (hk : k < 256) : w.cell? ⟨g1, k, none⟩ = some (.int .u32 0) := by
  rw [cell_of_row w g1 k _ _ _ h.row]
  exact h.rest k (Nat.le_refl _) hk
theorem TabSt.free {w0 w : World} {B g0 g1 g2 k : Nat} {cs : Array Value} (h : TabSt w0 w B g0 g1 g2 k cs) (j : Nat) : w.frozen? ⟨g1, j, none⟩ = false := frozen_of_row w g1 j cs _ h.row
theorem TabSt.all {w0 w : World} {B g0 g1 g2 : Nat} {cs : Array Value} (h : TabSt w0 w B g0 g1 g2 256 cs) : cs = (rowF t8 256).toArray := by
  apply Array.ext_getElem?
  intro j
  by_cases hj : j < 256
  · rw [h.done j hj, List.getElem?_toArray, rowF_get _ _ _ hj]
  · rw [Array.getElem?_eq_none (by have := h.size; omega), List.getElem?_toArray, List.getElem?_eq_none (by simp; omega)]

set_option maxHeartbeats 1600000 in
set_option maxRecDepth 100000 in
theorem Table_ok (w : World) :
    Calls Try.prog 24 #[] w fun e w' => e = .returned (.agg (rowF t8 256).toArray) ∧ Below w.heap.size w w' := by
  have hone4 : (rowF t4 16).toArray.all (·.oneCell') = true := by
    simp only [List.all_toArray, List.all_eq_true]
    exact rowF_one _ _ (fun _ => rfl)
  have hsz4 : (Try.prog.info? 68).map (·.size) = some (rowF t4 16).toArray.size := by
    rw [List.size_toArray, rowF_length]; kernel_rfl
  have HSZ4 := hide hsz4
  have hsz8 : (Try.prog.info? 45).map (·.size) = some (rowF t8 256).toArray.size := by
    rw [List.size_toArray, rowF_length]; kernel_rfl
  have hone8 : (rowF t8 256).toArray.all (·.oneCell') = true := by
    simp only [List.all_toArray, List.all_eq_true]
    exact rowF_one _ _ (fun _ => rfl)
  have HS8 := hide hsz8
  have HO8 := hide hone8
  have hal := zero45
  have HB0 := hide (((Below.refl w.heap.size w).alloc (Nat.le_refl _) (.cells Z256 45)).alloc (by simp) (.cells Z256 45))
  have HN0 : Hid (((w.alloc (.cells Z256 45)).alloc (.cells Z256 45)).heap[w.heap.size]? = some (.cells Z256 45 (0, 0))) := hide (by rw [Below.heap_alloc _ _ _ (by simp)]; exact heap_alloc_new w _)
  have HN1 : Hid (((w.alloc (.cells Z256 45)).alloc (.cells Z256 45)).heap[w.heap.size + 1]? = some (.cells Z256 45 (0, 0))) := hide (by have := heap_alloc_new (w.alloc (.cells Z256 45)) (.cells Z256 45); rwa [World.size_alloc] at this)
  have HZ : Hid (∀ j, j < 256 → Z256[j]? = some (.int .u32 0)) := hide (fun j hj => by simp [Z256, hj])
  have HZS : Hid (Z256.size = 256) := hide (by simp [Z256])
  clear hsz4 hsz8 hone8
  obtain ⟨Z, hZ⟩ : ∃ Z, Z = Z256 := ⟨_, rfl⟩
  rw [← hZ] at hal HB0 HN0 HN1 HZ HZS
  have HZ0 := hide hZ
  clear hZ
  generalize hcs : (rowF t4 16).toArray = cs4 at *
  go_enter Try.func24, Try.ntmps24
  go_wp2_with fail
  refine (fours_ok _).mono ?_
  rw [hcs]
  have HCS := hide hcs
  clear hcs hal
  rintro e w1 ⟨rfl, hB1⟩
  have HB1 := hide (HB0.out.trans (hB1.mono HB0.out.size))
  have HN0' : Hid (w1.heap[w.heap.size]? = some (.cells Z 45 (0, 0))) := hide ((hB1.block _ (by simp; omega)).trans HN0.out)
  have HN1' : Hid (w1.heap[w.heap.size + 1]? = some (.cells Z 45 (0, 0))) := hide ((hB1.block _ (by simp)).trans HN1.out)
  have hs1 := hB1.size
  simp only [World.size_alloc] at hs1
  clear hB1 HN0 HN1 HB0
  have hnew := hide (heap_alloc_new w1 (.cells #[.int .u32 0, .int .u32 0, .int .u32 0, .int .u32 0, .int .u32 0, .int .u32 0, .int .u32 0, .int .u32 0, .int .u32 0, .int .u32 0, .int .u32 0, .int .u32 0, .int .u32 0, .int .u32 0, .int .u32 0, .int .u32 0] 68))
  go_wp2_with (refine wpList_store_row rfl 68 (.tmp 2) (.tmp 5) rfl w1.heap.size cs4 rfl rfl 68 _ hnew.out HSZ4.out (by rw [← HCS.out]; simp) hone4 ?_)
  have hB2 := below_setRow' ((HB1.out.alloc HB1.out.size (.cells #[.int .u32 0, .int .u32 0, .int .u32 0, .int .u32 0, .int .u32 0, .int .u32 0, .int .u32 0, .int .u32 0, .int .u32 0, .int .u32 0, .int .u32 0, .int .u32 0, .int .u32 0, .int .u32 0, .int .u32 0, .int .u32 0] 68))) HB1.out.size cs4
  have hT0 := setRow_heap _ w1.heap.size _ cs4 _ _ hnew.out
  have hN0 : ((w1.alloc (.cells #[.int .u32 0, .int .u32 0, .int .u32 0, .int .u32 0, .int .u32 0, .int .u32 0, .int .u32 0, .int .u32 0, .int .u32 0, .int .u32 0, .int .u32 0, .int .u32 0, .int .u32 0, .int .u32 0, .int .u32 0, .int .u32 0] 68)).setRow w1.heap.size cs4).heap[w.heap.size]? = some (.cells Z 45 (0, 0)) := by
    rw [setRow_other _ _ _ _ (by omega), Below.heap_alloc _ _ _ (by omega)]; exact HN0'.out
  have hN1 : ((w1.alloc (.cells #[.int .u32 0, .int .u32 0, .int .u32 0, .int .u32 0, .int .u32 0, .int .u32 0, .int .u32 0, .int .u32 0, .int .u32 0, .int .u32 0, .int .u32 0, .int .u32 0, .int .u32 0, .int .u32 0, .int .u32 0, .int .u32 0] 68)).setRow w1.heap.size cs4).heap[w.heap.size + 1]? = some (.cells Z 45 (0, 0)) := by
    rw [setRow_other _ _ _ _ (by omega), Below.heap_alloc _ _ _ (by omega)]; exact HN1'.out
  generalize (w1.alloc (.cells #[.int .u32 0, .int .u32 0, .int .u32 0, .int .u32 0, .int .u32 0, .int .u32 0, .int .u32 0, .int .u32 0, .int .u32 0, .int .u32 0, .int .u32 0, .int .u32 0, .int .u32 0, .int .u32 0, .int .u32 0, .int .u32 0] 68)).setRow w1.heap.size cs4 = w2 at *
  have HST : Hid (TabSt w w2 w.heap.size w.heap.size (w.heap.size + 1) w1.heap.size 0 Z256) := hide ⟨by rw [← HZ0.out]; exact hN0, by rw [← HZ0.out]; exact hN1, by rw [← HZ0.out]; exact HZS.out, fun j hj => by omega, fun j _ hj => by rw [← HZ0.out]; exact HZ.out j hj, fun j hj => by
    simp only [World.cell?, hT0]
    rw [← HCS.out]
    simp [rowF, hj, t4], hB2⟩
  clear hN0 hN1 hT0 hB2 hnew HN0' HN1' HZ HZS HB1
  generalize w1.heap.size = g2 at *
  go_wp2_with fail
  go_loopw [3, 4, 6] (fun x y i wr => ∃ (k : Nat) (cs : Array Value), k ≤ 256 ∧ i = .int .i64 k ∧ Hid (TabSt w wr w.heap.size w.heap.size (w.heap.size + 1) g2 k cs)) (fun _ _ i _ => 256 - (intOf i).toNat)
  case atStart => exact ⟨0, Z256, by omega, rfl, HST⟩
  case round =>
    obtain ⟨k, cs, hk, rfl, HS⟩ := hrel
    by_cases hlt : k < 256
    · have hcv : ((k : Int) % 4294967296) = (k : Int) := by omega
      have e2 : bits .and .u32 (k : Int) 15 = ((k % 16 : Nat) : Int) := by have := u32_and_nat k 15 (by omega) (by omega); rw [nat_mask4] at this; exact this
      have c1 := HS.out.four (k % 16) (Nat.mod_lt _ (by omega))
      have b1 : k % 16 < 16 := Nat.mod_lt _ (by omega)
      have e3 : bits .xor .u32 ((stpN 4 (k % 16) : Nat) : Int) ((k : Int) / 16) = ((stpN 4 k : Nat) : Int) := by
        rw [four_split k, show (k : Int) / 16 = ((k / 16 : Nat) : Int) by omega]; exact u32xor _ _ (stpN_lt 4 (by omega)) (by omega)
      have hz := stpN_lt (x := k) 4 (by omega)
      have HSS := hide (HS.out.step hlt (by omega) (by omega) (by omega))
      have hcell := HS.out.cell hlt
      have hfree := HS.out.free k
      generalize stpN 4 k = z at *
      have e4 : bits .and .u32 (z : Int) 15 = ((z % 16 : Nat) : Int) := by have := u32_and_nat z 15 hz (by omega); rw [nat_mask4] at this; exact this
      have c2 := HS.out.four (z % 16) (Nat.mod_lt _ (by omega))
      have b2 : z % 16 < 16 := Nat.mod_lt _ (by omega)
      have e5 : bits .xor .u32 ((stpN 4 (z % 16) : Nat) : Int) ((z : Int) / 16) = ((stpN 4 z : Nat) : Int) := by
        rw [four_split z, show (z : Int) / 16 = ((z / 16 : Nat) : Int) by omega]; exact u32xor _ _ (stpN_lt 4 (by omega)) (by omega)
      go_wp2
      obtain ⟨cs', hcs'⟩ := HSS.out
      go_roundw
      case rel => exact ⟨k + 1, cs', by omega, by go_num, hide hcs'⟩
      case measure => simp [intOf] <;> omega
    · obtain rfl : k = 256 := by omega
      obtain rfl := HS.out.all
      have HH1 := hide HS.out.row
      have HH0 := hide HS.out.out
      have HBB := hide HS.out.bel
      have HZS : Hid (Z256.size = (rowF t8 256).toArray.size) := hide (by simp [Z256])
      generalize hT8 : (rowF t8 256).toArray = T at *
      generalize Z256 = Zz at *
      go_wp2_with (first
        | (refine wpList_load_row rfl 45 (.tmp 1) rfl (w.heap.size + 1) rfl 45 T (0, 0) _ HH1.out Try.underlying45 rfl HS8.out ?_)
        | (refine wpList_store_row rfl 45 (.tmp 0) (.tmp 28) rfl w.heap.size T rfl rfl 45 _ HH0.out HS8.out HZS.out HO8.out ?_))
      refine bodyPost_ret (results_cell_row rfl _ _ w.heap.size 45 T (0, 0) _ rfl (setRow_heap _ _ _ _ _ _ HH0.out) Try.underlying45 rfl HS8.out) rfl ?_
      exact ⟨by rw [hT8], below_setRow' HBB.out (Nat.le_refl _) T⟩
end Go.Proofs.Ytbcdalgfceagcaa
