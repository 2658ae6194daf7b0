/- KeepLong: as many pieces as may be, and one more. -/
import Derived.Test.YtjgdegkjkedfcaaKeepWorks
namespace Go.Proofs.Ytjgdegkjkedfcaa
open Go.RowKit

/-- pieces of which the first k have their number as base -/
def cellX (k i : Nat) : Value := .int .i64 (if i % 3 = 0 ∧ i / 3 < k then ((i / 3 : Nat) : Int) else 0)
def XRow (w : World) (base g k : Nat) : Prop := w.ownsRow base 24 3 (.slice (some ⟨g, 0, none⟩) 4097 4097) 4097 (rowF (cellX k) 12291)
theorem XRow.set {w : World} {base g k : Nat} (h : XRow w base g k) : XRow (w.setCell ⟨g, k * 3, none⟩ (.int .i64 (k : Int))) base g (k + 1) := by
  have h' := (World.ownsRow.stored h (k * 3) (.int .i64 (k : Int))).1
  unfold XRow
  have e : (rowF (cellX k) 12291).set (k * 3) (.int .i64 (k : Int)) = rowF (cellX (k + 1)) 12291 := by
    apply List.ext_getElem?
    intro i
    by_cases hi : i < 12291
    · rw [rowF_get _ _ _ hi]
      by_cases hik : i = k * 3
      · subst hik
        rw [List.getElem?_set_self (by simp; omega)]
        unfold cellX
        rw [if_pos (by omega), show k * 3 / 3 = k by omega]
      · rw [List.getElem?_set_ne (by omega), rowF_get _ _ _ hi]
        unfold cellX
        by_cases hc : i % 3 = 0 ∧ i / 3 < k
        · rw [if_pos hc, if_pos (by omega)]
        · rw [if_neg hc, if_neg (by omega)]
    · rw [List.getElem?_eq_none (by simp; omega), List.getElem?_eq_none (by simp; omega)]
  rwa [e] at h'
theorem XRow.free {w : World} {base g k : Nat} (h : XRow w base g k) (j : Nat) : w.frozen? ⟨g, j, none⟩ = false := World.ownsRow.frozenAt h j
theorem XRow.cell {w : World} {base g k : Nat} (h : XRow w base g k) (i : Nat) (hi : i < 12291) : w.cell? ⟨g, i, none⟩ = some (cellX k i) := by
  have := World.ownsRow.cells h (g := g) rfl i (cellX k i) (rowF_get _ _ _ hi)
  rwa [addr_add0] at this
theorem XRow.lies {w : World} {base g k : Nat} (h : XRow w base g k) : base ≤ g := by
  rcases h.2 with ⟨h', _⟩ | ⟨g', cap', cur, h', hb, _⟩
  · simp at h'
  · simp only [Value.slice.injEq, Option.some.injEq, Addr.mk.injEq, and_true, true_and] at h'
    obtain ⟨rfl, _⟩ := h'
    exact hb
def pcsN (n : Nat) : List P3 := (List.range n).map fun (i : Nat) => (⟨(i : Int), 0, 0⟩ : P3)
@[simp] theorem pcsN_length (n : Nat) : (pcsN n).length = n := by simp [pcsN]
theorem XRow.pcs {w : World} {base g : Nat} (h : XRow w base g 4097) (n : Nat) (hn : n ≤ 4097) : PcsAt w (some ⟨g, 0, none⟩) (pcsN n) := by
  intro j hj
  rw [pcsN_length] at hj
  refine ⟨g, 0, rfl, ?_⟩
  have e : (pcsN n).getD j default = ⟨(j : Int), 0, 0⟩ := by simp [pcsN, List.getD_eq_getElem?_getD, hj]
  rw [e, Nat.zero_add, h.cell _ (by omega), h.cell _ (by omega), h.cell _ (by omega)]
  unfold cellX
  rw [if_pos (by omega), if_neg (by omega), if_neg (by omega), show j * 3 / 3 = j by omega]
  exact ⟨rfl, rfl, rfl⟩
theorem Try.info24 : (Try.prog.info? 24).map (fun i => (i.zero, i.size, i.bytes)) = some (some (.agg #[.int .i64 0, .int .i64 0, .int .i64 0]), 3, 24) := by kernel_rfl
theorem made_x : (madeCells (Value.agg #[.int .i64 0, .int .i64 0, .int .i64 0]).cells 12291).toList = rowF (cellX 0) 12291 := by
  apply List.ext_getElem?
  intro i
  by_cases hi : i < 12291
  · rw [rowF_get _ _ _ hi]
    have : i % 3 = 0 ∨ i % 3 = 1 ∨ i % 3 = 2 := by omega
    rcases this with h | h | h <;> simp [madeCells, hi, Value.cells, h, cellX]
  · rw [List.getElem?_eq_none (by simp [madeCells]; omega), List.getElem?_eq_none (by simp; omega)]

/-- the plain law -/
theorem ord_pcs (n k : Nat) (last : Int) (hk : k ≤ n) (hn : n ≤ 9007199254740992) (hl : last < (k : Int)) : ordFrom last ((pcsN n).drop k) = true := by
  induction h : n - k generalizing k last with
  | zero =>
    obtain rfl : k = n := by omega
    rw [List.drop_eq_nil_of_le (by simp)]
    rfl
  | succ d ih =>
    rw [drop_cons _ k (by simp; omega)]
    have e : (pcsN n).getD k default = ⟨(k : Int), 0, 0⟩ := by simp [pcsN, List.getD_eq_getElem?_getD, show k < n by omega]
    rw [e]
    simp only [ordFrom]
    rw [ih (k + 1) (k : Int) (by omega) (by omega) (by omega), Bool.and_true]
    simp [okP, inB]
    omega
def rule1 : R4 := ⟨0, 0, 1, 4096⟩
theorem may_long : mayE rule1 0 (pcsN 4096) = 0 := by
  unfold mayE
  rw [if_pos (by decide)]
  unfold ordE
  rw [if_neg (by simp)]
  have := ord_pcs 4096 0 (-1) (by omega) (by omega) (by omega)
  rw [List.drop_zero] at this
  rw [this]
  rfl
theorem may_over : mayE rule1 0 (pcsN 4097) = 3 := by
  unfold mayE
  rw [if_pos (by decide)]
  unfold ordE
  rw [if_pos (by simp)]
theorem ord_over : ordE (pcsN 4097) = 3 := by
  unfold ordE
  rw [if_pos (by simp)]
theorem rsn_pcs (k : Nat) (hk : k + 1 < 4096) : rsn rule1 0 ((pcsN 4096).getD k default) ((pcsN 4096).drop (k + 1)) = 3 := by
  rw [rsn_more _ _ _ _ _ (by simp; omega)]
  have e : (pcsN 4096).getD (k + 1) default = ⟨((k + 1 : Nat) : Int), 0, 0⟩ := by simp [pcsN, List.getD_eq_getElem?_getD, hk]
  rw [e, pcsN_length]
  unfold rule1
  dsimp only
  rw [if_neg (by omega), if_neg (by omega), if_neg (by omega), if_pos (by omega)]
theorem cnt_pcs : cntL (alsL rule1 0 (pcsN 4096)) = 4095 := by
  have h : ∀ d, d ≤ 4095 → cntL ((alsL rule1 0 (pcsN 4096)).drop (4095 - d)) = d := by
    intro d
    induction d with
    | zero =>
      intro _
      rw [cnt_step _ _ (by simp), alsL_getD _ _ _ _ (by simp)]
      have : (pcsN 4096).drop (4095 - 0 + 1) = [] := List.drop_eq_nil_of_le (by simp)
      rw [this]
      rfl
    | succ d ih =>
      intro hd
      rw [cnt_step _ _ (by simp; omega), alsL_getD _ _ _ _ (by simp; omega), rsn_pcs _ (by omega), if_pos (by decide), show 4095 - (d + 1) + 1 = 4095 - d by omega, ih (by omega)]
  have := h 4095 (by omega)
  simpa using this
theorem goes_long : goesN rule1 0 (pcsN 4096) = 4095 := by
  unfold goesN
  rw [if_pos may_long, cnt_pcs]
  rfl
theorem goes_over : goesN rule1 0 (pcsN 4097) = 0 := by
  unfold goesN
  rw [may_over]
  rfl

set_option maxHeartbeats 3200000 in
set_option maxRecDepth 100000 in
theorem long_walk (w : World) : Calls Try.prog 3 #[] w fun e w' => e = .returned (.bool true) ∧ Below w.heap.size w w' := by
  obtain ⟨i0, hi, hz0, hz1, hz2⟩ := info_parts Try.info24
  obtain ⟨w1, hmk, hown, hgr⟩ := run_make_full w w.heap.size 22 24 i0 _ 3 Try.underlying22 hi hz0 hz1 .i64 .i64 4097 (by rw [hz2]; omega) (by unfold maxLen; omega) (Nat.le_refl _)
  rw [made_x] at hown
  replace hmk : (Instr.makeSlice 22 (.int .i64 4097) (.int .i64 4097)).run Try.prog w = .ok (.slice (some ⟨w.heap.size, 0, none⟩) 4097 4097) w1 := hmk
  have HX0 : Hid (XRow w1 w.heap.size w.heap.size 0) := hide hown
  have HB0 : Hid (Below w.heap.size w w1) := hide ((Below.refl w.heap.size w).grown hgr (Nat.le_refl _) (fun k hk => by cases hk))
  have K1 := hide (fun (g : Nat) (w : World) (h : PcsAt w (some ⟨g, 0, none⟩) (pcsN 4096)) => Goes_ok rule1 0 (some ⟨g, 0, none⟩) 4097 (pcsN 4096) w (by simp) h)
  have K2 := hide (fun (g : Nat) (w : World) (h : PcsAt w (some ⟨g, 0, none⟩) (pcsN 4097)) => Goes_ok rule1 0 (some ⟨g, 0, none⟩) 4097 (pcsN 4097) w (by simp) h)
  have K3 := hide (fun (g : Nat) (w : World) (h : PcsAt w (some ⟨g, 0, none⟩) (pcsN 4097)) => Ordered_ok (some ⟨g, 0, none⟩) 4097 (pcsN 4097) w (by simp) h)
  rw [goes_long, may_long, pcsN_length] at K1
  rw [goes_over, may_over, pcsN_length] at K2
  rw [ord_over, pcsN_length] at K3
  unfold rule1 ruleV at K1 K2
  dsimp only at K1 K2
  clear hown hgr hi hz0 hz1 hz2
  go_enter Try.func3, Try.ntmps3
  go_wp2_with fail
  clear hmk
  go_loopw [2] (fun i wr => ∃ (k : Nat), k ≤ 4097 ∧ i = .int .i64 k ∧ Hid (XRow wr w.heap.size w.heap.size k) ∧ Hid (Below w.heap.size w wr)) (fun i _ => 4097 - (intOf i).toNat)
  case atStart => exact ⟨0, by omega, rfl, HX0, HB0⟩
  case round =>
    obtain ⟨k, hk, rfl, HX, HB⟩ := hrel
    by_cases hlt : k < 4097
    · have hc := HX.out.cell (k * 3) (by omega)
      have hf := HX.out.free (k * 3)
      have HX2 := hide (HX.out.set)
      have HB2 := hide (HB.out.setCell (p := ⟨w.heap.size, k * 3, none⟩) (Nat.le_refl _) (.int .i64 (k : Int)))
      generalize cellX k (k * 3) = cv at hc
      go_wp2
      go_roundw
      case rel => exact ⟨k + 1, by omega, by go_num, HX2, HB2⟩
      case measure => simp [intOf] <;> omega
    · obtain rfl : k = 4097 := by omega
      have hp1 := HX.out.pcs 4096 (by omega)
      have hp2 := HX.out.pcs 4097 (by omega)
      have HP1 := hide hp1
      have HP2 := hide hp2
      clear hp1 hp2
      go_wp2_with fail
      refine (K1.out _ wr HP1.out).mono ?_
      rintro e w2 ⟨rfl, hB⟩
      have HP3 := hide (HP2.out.below hB (Nat.le_refl _))
      have HB2 := hide (HB.out.trans (hB.mono HB.out.size))
      clear hB
      go_wp2_with fail
      refine (K2.out _ w2 HP3.out).mono ?_
      rintro e w3 ⟨rfl, hB⟩
      have HP4 := hide (HP3.out.below hB (Nat.le_refl _))
      have HB3 := hide (HB2.out.trans (hB.mono HB2.out.size))
      clear hB
      go_wp2_with fail
      refine (num_ok 0 w3).mono ?_
      rintro e w' ⟨rfl, rfl⟩
      go_wp2_with fail
      refine (num_ok 3 w3).mono ?_
      rintro e w' ⟨rfl, rfl⟩
      go_wp2_with fail
      refine (K3.out _ w3 HP4.out).mono ?_
      rintro e w4 ⟨rfl, hB⟩
      have HB4 := hide (HB3.out.trans (hB.mono HB3.out.size))
      clear hB
      go_wp2_with fail
      refine (num_ok 3 w4).mono ?_
      rintro e w' ⟨rfl, rfl⟩
      go_wp2_with fail
      refine (works_ok w4).mono ?_
      rintro e w5 ⟨rfl, hB⟩
      go_wp2
      go_ret
      exact ⟨rfl, HB4.out.trans (hB.mono HB4.out.size)⟩
end Go.Proofs.Ytjgdegkjkedfcaa
