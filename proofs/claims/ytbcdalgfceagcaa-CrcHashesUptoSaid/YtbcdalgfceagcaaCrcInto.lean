/- Walks of crc.fours, crc.into. -/
import Derived.Test.YtbcdalgfceagcaaCrcPlain
import Derived.Laws.Rows
namespace Go.Proofs.Ytbcdalgfceagcaa
open Go.RowKit

/-- 16 numbers, four steps each -/
def t4 (i : Nat) : Value := .int .u32 (stpN 4 i : Nat)

theorem below_setRow' {B g : Nat} {w0 w : World} (hb : Below B w0 w) (hBg : B ≤ g) (cs : Array Value) : Below B w0 (w.setRow g cs) :=
  hb.trans ⟨rfl, rfl, rfl, by simp [World.setRow], fun k hk => setRow_other w g k cs (by omega)⟩
theorem u32xor (a b : Nat) (ha : a < 4294967296) (hb : b < 4294967296) : bits .xor .u32 (a : Int) (b : Int) = ((a ^^^ b : Nat) : Int) := u32_xor_nat a b ha hb
theorem step_bits (x : Nat) (hx : x < 4294967296) : bits .xor .u32 ((x : Int) / 2) (bits .and .u32 2197175160 (-bits .and .u32 (x : Int) 1 % 4294967296)) = ((stp x : Nat) : Int) := by
  have h1 : bits .and .u32 (x : Int) 1 = ((x % 2 : Nat) : Int) := by
    have := u32_and_nat x 1 hx (by omega)
    rw [nat_mask1] at this
    exact this
  rw [h1, show (x : Int) / 2 = ((x / 2 : Nat) : Int) by omega]
  unfold stp
  rcases Nat.mod_two_eq_zero_or_one x with h | h
  · rw [h, if_neg (by omega), show (-((0 : Nat) : Int) % 4294967296) = ((0 : Nat) : Int) by rfl]
    have h2 := u32_and_nat 2197175160 0 (by omega) (by omega)
    rw [show ((2197175160 : Nat) : Int) = 2197175160 from rfl] at h2
    rw [h2, Nat.and_zero]
    have h3 := u32_xor_nat (x / 2) 0 (by omega) (by omega)
    rw [Nat.xor_zero] at h3
    exact h3
  · rw [h, if_pos rfl, show (-((1 : Nat) : Int) % 4294967296) = ((4294967295 : Nat) : Int) by rfl]
    have h2 := u32_and_nat 2197175160 4294967295 (by omega) (by omega)
    rw [show ((2197175160 : Nat) : Int) = 2197175160 from rfl] at h2
    rw [h2, show (2197175160 : Nat) &&& 4294967295 = 2197175160 by decide]
    exact u32_xor_nat (x / 2) 2197175160 (by omega) (by omega)
theorem zeros16 (j : Nat) (h : j < 16) : (#[Value.int .u32 0, .int .u32 0, .int .u32 0, .int .u32 0, .int .u32 0, .int .u32 0, .int .u32 0, .int .u32 0, .int .u32 0, .int .u32 0, .int .u32 0, .int .u32 0, .int .u32 0, .int .u32 0, .int .u32 0, .int .u32 0])[j]? = some (.int .u32 0) := by
  have : (#[Value.int .u32 0, .int .u32 0, .int .u32 0, .int .u32 0, .int .u32 0, .int .u32 0, .int .u32 0, .int .u32 0, .int .u32 0, .int .u32 0, .int .u32 0, .int .u32 0, .int .u32 0, .int .u32 0, .int .u32 0, .int .u32 0]) = Array.replicate 16 (Value.int .u32 0) := rfl
  rw [this]
  simp [h]

set_option maxHeartbeats 1600000 in
theorem fours_ok (w : World) :
    Calls Try.prog 41 #[] w fun e w' => e = .returned (.agg (rowF t4 16).toArray) ∧ Below w.heap.size w w' := by
  go_enter Try.func41, Try.ntmps41
  go_wp2
  go_loopw [4] (fun i wr => ∃ k : Nat, k ≤ 16 ∧ i = .int .i64 k ∧ ∃ cs : Array Value, cs.size = 16 ∧ (∀ j, j < k → cs[j]? = some (t4 j)) ∧ (∀ j, k ≤ j → j < 16 → cs[j]? = some (.int .u32 0)) ∧
      wr = (w.alloc (.cells #[.int .u32 0, .int .u32 0, .int .u32 0, .int .u32 0, .int .u32 0, .int .u32 0, .int .u32 0, .int .u32 0, .int .u32 0, .int .u32 0, .int .u32 0, .int .u32 0, .int .u32 0, .int .u32 0, .int .u32 0, .int .u32 0] 68)).alloc (.cells cs 68))
    (fun i _ => 16 - (intOf i).toNat)
  case atStart => 
    refine ⟨0, by omega, rfl, _, rfl, fun j hj => by omega, fun j _ hj => zeros16 j hj, rfl⟩
  case round =>
    obtain ⟨k, hk, rfl, cs, hcs, h1, h2, rfl⟩ := hrel
    by_cases hlt : k < 16
    · go_wp2
      go_loop [3, 9] (fun x i => ∃ n : Nat, n ≤ 4 ∧ i = .int .i64 n ∧ x = .int .u32 (stpN n k : Nat)) (fun _ i => 4 - (intOf i).toNat)
      case atStart => exact ⟨0, by omega, rfl, rfl⟩
      case round =>
        obtain ⟨n, hn, rfl, rfl⟩ := hrel
        have hx := stpN_lt (x := k) n (by omega)
        have hs := hide (stpN_succ n k)
        generalize hX : stpN n k = x at *
        have HX := hide hX
        clear hX
        by_cases hl : n < 4
        · have HSB := hide (step_bits x hx)
          go_wp2
          go_round
          case rel => exact ⟨n + 1, by omega, by go_num, by rw [HSB.out, hs.out]⟩
          case measure => simp [intOf]; omega
        · have hn4 : n = 4 := by omega
          have HX4 := hide (show t4 k = .int .u32 (x : Nat) by unfold t4; rw [← HX.out, hn4])
          clear hn4
          go_wp2
          go_roundw
          case rel => exact ⟨k + 1, by omega, by go_num, cs.setIfInBounds k (.int .u32 x), by simpa using hcs, fun j hj => by
            by_cases e : j = k
            · subst e; rw [HX4.out]; simp [hcs, hlt]
            · rw [Array.getElem?_setIfInBounds_ne (by omega)]; exact h1 j (by omega), fun j hj1 hj2 => by rw [Array.getElem?_setIfInBounds_ne (by omega)]; exact h2 j (by omega) hj2, rfl⟩
          case measure => simp [intOf]; omega
    · have hk16 : k = 16 := by omega
      have hlit : cs = (rowF t4 16).toArray := by
        apply Array.ext_getElem?
        intro j
        by_cases hj : j < 16
        · rw [h1 j (by omega), List.getElem?_toArray, rowF_get _ _ _ hj]
        · rw [Array.getElem?_eq_none (by omega), List.getElem?_toArray, List.getElem?_eq_none (by simp; omega)]
      have hone : cs.all (·.oneCell') = true := by
        rw [hlit]
        simp only [List.all_toArray, List.all_eq_true]
        exact rowF_one _ _ (fun _ => rfl)
      have HLIT := hide hlit
      have hsz : (Try.prog.info? 68).map (·.size) = some cs.size := by rw [hcs]; kernel_rfl
      clear h1 h2 hk16 hlit
      have hh : ((w.alloc (.cells #[.int .u32 0, .int .u32 0, .int .u32 0, .int .u32 0, .int .u32 0, .int .u32 0, .int .u32 0, .int .u32 0, .int .u32 0, .int .u32 0, .int .u32 0, .int .u32 0, .int .u32 0, .int .u32 0, .int .u32 0, .int .u32 0] 68)).alloc (.cells cs 68)).heap[w.heap.size]? = some (.cells #[.int .u32 0, .int .u32 0, .int .u32 0, .int .u32 0, .int .u32 0, .int .u32 0, .int .u32 0, .int .u32 0, .int .u32 0, .int .u32 0, .int .u32 0, .int .u32 0, .int .u32 0, .int .u32 0, .int .u32 0, .int .u32 0] 68) := (Below.heap_alloc (w.alloc (.cells #[.int .u32 0, .int .u32 0, .int .u32 0, .int .u32 0, .int .u32 0, .int .u32 0, .int .u32 0, .int .u32 0, .int .u32 0, .int .u32 0, .int .u32 0, .int .u32 0, .int .u32 0, .int .u32 0, .int .u32 0, .int .u32 0] 68)) (.cells cs 68) w.heap.size (by simp)).trans (heap_alloc_new w _)
      have HH := hide hh
      clear hh
      go_wp2_with (first
        | (refine wpList_load_row rfl 68 (.tmp 1) rfl (w.heap.size + 1) rfl 68 cs (0, 0) _ ?_ Try.underlying68 rfl hsz ?_; (simpa using heap_alloc_new (w.alloc (.cells #[.int .u32 0, .int .u32 0, .int .u32 0, .int .u32 0, .int .u32 0, .int .u32 0, .int .u32 0, .int .u32 0, .int .u32 0, .int .u32 0, .int .u32 0, .int .u32 0, .int .u32 0, .int .u32 0, .int .u32 0, .int .u32 0] 68)) (.cells cs 68)))
        | (refine wpList_store_row rfl 68 (.tmp 0) (.tmp 23) rfl w.heap.size cs rfl rfl 68 _ HH.out hsz (by rw [hcs]; rfl) hone ?_))
      refine bodyPost_ret (results_cell_row rfl _ _ w.heap.size 68 cs (0, 0) _ rfl (setRow_heap _ _ _ _ _ _ HH.out) Try.underlying68 rfl hsz) rfl ?_
      exact ⟨by rw [HLIT.out], below_setRow' (((Below.refl _ _).alloc (Nat.le_refl _) _).alloc (by simp) _) (Nat.le_refl _) cs⟩

/-- bytes in memory -/
def BytesAt (w : World) (a : Option Addr) (l : List Nat) : Prop := CellsAt w a l.length (fun j => .int .u8 (l.getD j 0 : Nat))
theorem BytesAt.below {w w' : World} {a : Option Addr} {l : List Nat} {B : Nat} (h : BytesAt w a l) (hb : Below B w w') (hB : w.heap.size ≤ B) : BytesAt w' a l := CellsAt.below h hb hB
theorem take_getD (l : List Nat) (k : Nat) (h : k < l.length) : l.take (k + 1) = l.take k ++ [l.getD k 0] := by
  rw [List.take_add_one, List.getElem?_eq_getElem h]; simp [List.getD, h]
theorem intoL_take (x : Nat) (l : List Nat) (k : Nat) (h : k < l.length) : intoL x (l.take (k + 1)) = byt (intoL x (l.take k)) (l.getD k 0) := by
  rw [take_getD l k h, intoL_append]; rfl
theorem getD_lt (l : List Nat) (h : ∀ c ∈ l, c < 256) (k : Nat) : l.getD k 0 < 256 := by
  by_cases hk : k < l.length
  · rw [List.getD, List.getElem?_eq_getElem hk]; exact h _ (List.getElem_mem hk)
  · rw [List.getD, List.getElem?_eq_none (by omega)]; exact Nat.zero_lt_succ _

set_option maxHeartbeats 1600000 in
theorem into_ok (x0 : Nat) (hx0 : x0 < 4294967296) (a : Option Addr) (c : Nat) (l : List Nat) (w : World) (hn : l.length ≤ 9223372036854775807) (hl : ∀ c ∈ l, c < 256) (hb : BytesAt w a l) :
    Calls Try.prog 40 #[.int .u32 x0, .slice a l.length c] w fun e w' => e = .returned (.int .u32 (intoL x0 l : Nat)) ∧ Below w.heap.size w w' := by
  have hone : (rowF t4 16).toArray.all (·.oneCell') = true := by
    simp only [List.all_toArray, List.all_eq_true]
    exact rowF_one _ _ (fun _ => rfl)
  have hsz : (Try.prog.info? 68).map (·.size) = some (rowF t4 16).toArray.size := by
    rw [List.size_toArray, rowF_length]; kernel_rfl
  have HSZ := hide hsz
  have HL := hide hl
  clear hsz hl
  generalize hcs : (rowF t4 16).toArray = cs at *
  go_enter Try.func40, Try.ntmps40
  go_wp2_with fail
  refine (fours_ok w).mono ?_
  rw [hcs]
  have HCS := hide hcs
  clear hcs
  rintro e w1 ⟨rfl, hB1⟩
  have hnew := hide (heap_alloc_new w1 (.cells #[.int .u32 0, .int .u32 0, .int .u32 0, .int .u32 0, .int .u32 0, .int .u32 0, .int .u32 0, .int .u32 0, .int .u32 0, .int .u32 0, .int .u32 0, .int .u32 0, .int .u32 0, .int .u32 0, .int .u32 0, .int .u32 0] 68))
  go_wp2_with (refine wpList_store_row rfl 68 (.tmp 5) (.tmp 8) rfl w1.heap.size cs rfl rfl 68 _ hnew.out HSZ.out (by rw [← HCS.out]; simp) hone ?_)
  have hB2 := below_setRow' ((hB1.alloc hB1.size (.cells #[.int .u32 0, .int .u32 0, .int .u32 0, .int .u32 0, .int .u32 0, .int .u32 0, .int .u32 0, .int .u32 0, .int .u32 0, .int .u32 0, .int .u32 0, .int .u32 0, .int .u32 0, .int .u32 0, .int .u32 0, .int .u32 0] 68))) hB1.size cs
  have hT0 := setRow_heap _ w1.heap.size _ cs _ _ hnew.out
  obtain ⟨w2, hw2⟩ : ∃ w2, w2 = (w1.alloc (.cells #[.int .u32 0, .int .u32 0, .int .u32 0, .int .u32 0, .int .u32 0, .int .u32 0, .int .u32 0, .int .u32 0, .int .u32 0, .int .u32 0, .int .u32 0, .int .u32 0, .int .u32 0, .int .u32 0, .int .u32 0, .int .u32 0] 68)).setRow w1.heap.size cs := ⟨_, rfl⟩
  rw [← hw2] at hB2 hT0 ⊢
  generalize w1.heap.size = g at *
  have hT : Hid (∀ j, j < 16 → w2.cell? ⟨g, j, none⟩ = some (.int .u32 (stpN 4 j : Nat))) := hide (fun j hj => by
    simp only [World.cell?, hT0]
    rw [← HCS.out]
    simp [rowF, hj, t4])
  have hb2 := hb.below hB2 (Nat.le_refl _)
  clear hw2 hnew hB1 hT0 hb
  go_loop [0, 11] (fun x i => ∃ k : Nat, k ≤ l.length ∧ i = .int .i64 k ∧ x = .int .u32 (intoL x0 (l.take k) : Nat)) (fun _ i => l.length - (intOf i).toNat)
  case atStart => exact ⟨0, Nat.zero_le _, rfl, rfl⟩
  case round =>
    obtain ⟨k, hk, rfl, rfl⟩ := hrel
    by_cases hlt : k < l.length
    · obtain ⟨b, off, rfl, hcx0⟩ := hb2 k hlt
      have hcx : w2.cell? ⟨b, off + k, none⟩ = some (.int .u8 (l.getD k 0 : Nat)) := hcx0
      clear hcx0
      have hs := hide (intoL_take x0 l k hlt)
      have hcl := getD_lt l HL.out k
      have hx := intoL_lt (l.take k) hx0 (fun c hc => HL.out c (List.mem_of_mem_take hc))
      generalize hX : intoL x0 (l.take k) = x at *
      generalize hC : l.getD k 0 = ch at *
      have HX := hide hX
      have HC := hide hC
      have e1 := u32xor x ch hx (by omega)
      have hs2 : Hid (byt x ch = stpN 4 (stpN 4 (x ^^^ ch))) := hide (byt_eq x ch)
      have hy := xor_lt32 hx (show ch < 4294967296 by omega)
      generalize x ^^^ ch = y at *
      have hz := stpN_lt 4 hy
      have e2 : bits .and .u32 (y : Int) 15 = ((y % 16 : Nat) : Int) := by have := u32_and_nat y 15 hy (by omega); rw [nat_mask4] at this; exact this
      have c1 := hT.out (y % 16) (Nat.mod_lt _ (by omega))
      have b1 : y % 16 < 16 := Nat.mod_lt _ (by omega)
      have e3 : bits .xor .u32 ((stpN 4 (y % 16) : Nat) : Int) ((y : Int) / 16) = ((stpN 4 y : Nat) : Int) := by
        rw [four_split y, show (y : Int) / 16 = ((y / 16 : Nat) : Int) by omega]; exact u32xor _ _ (stpN_lt 4 (by omega)) (by omega)
      generalize stpN 4 y = z at *
      have e4 : bits .and .u32 (z : Int) 15 = ((z % 16 : Nat) : Int) := by have := u32_and_nat z 15 hz (by omega); rw [nat_mask4] at this; exact this
      have c2 := hT.out (z % 16) (Nat.mod_lt _ (by omega))
      have b2 : z % 16 < 16 := Nat.mod_lt _ (by omega)
      have e5 : bits .xor .u32 ((stpN 4 (z % 16) : Nat) : Int) ((z : Int) / 16) = ((stpN 4 z : Nat) : Int) := by
        rw [four_split z, show (z : Int) / 16 = ((z / 16 : Nat) : Int) by omega]; exact u32xor _ _ (stpN_lt 4 (by omega)) (by omega)
      clear hX hC
      go_wp2
      go_round
      case rel => exact ⟨k + 1, by omega, by go_num, by rw [hs.out, hs2.out]⟩
      case measure => simp [intOf]; omega
    · have hkl : k = l.length := by omega
      subst hkl
      go_wp2
      go_ret
      exact ⟨by first | rfl | (rw [List.take_length]; rfl), hB2⟩
end Go.Proofs.Ytbcdalgfceagcaa
