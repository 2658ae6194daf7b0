/- CrcCarry: sums put together do not hang on how they are bracketed. -/
import Derived.Test.YtbcdalgfceagcaaCrcWorks
namespace Go.Proofs.Ytbcdalgfceagcaa
open Go.RowKit

/-- two sums put together -/
def cmb (a b n : Nat) : Nat := stpN (8 * n) a ^^^ b
/-- noughts' sum -/
def zer (n : Nat) : Nat := notN (stpN (8 * n) 4294967295)
theorem cmb_lt {a b : Nat} (n : Nat) (ha : a < 4294967296) (hb : b < 4294967296) : cmb a b n < 4294967296 := xor_lt32 (stpN_lt _ ha) hb
theorem zer_lt (n : Nat) : zer n < 4294967296 := notN_lt (stpN_lt _ (by omega))
theorem cmb_assoc (a b c n m : Nat) : cmb a (cmb b c m) (n + m) = cmb (cmb a b n) c m := by
  unfold cmb
  rw [stpN_xor, show 8 * (n + m) = 8 * n + 8 * m by omega, stpN_add, Nat.xor_assoc]
theorem cmb_nil (a : Nat) : cmb a 0 0 = a := by simp [cmb, stpN]
theorem cmb_zero (b n : Nat) : cmb 0 b n = b := by simp [cmb, stpN_zero]
theorem cmb_zer (n m : Nat) : zer (n + m) = cmb (zer n) (zer m) m := by
  unfold cmb zer
  rw [show 8 * (n + m) = 8 * n + 8 * m by omega, stpN_add, notN_eq, notN_eq, notN_eq, stpN_xor]
  generalize stpN (8 * m) 4294967295 = z
  generalize stpN (8 * m) (stpN (8 * n) 4294967295) = y
  rw [Nat.xor_comm z y, ← Nat.xor_assoc, Nat.xor_assoc y z, Nat.xor_comm z, Nat.xor_assoc, Nat.xor_assoc, Nat.xor_self, Nat.xor_zero, Nat.xor_comm]
theorem Combine_n (a b n : Nat) (ha : a < 4294967296) (hb : b < 4294967296) (hn : n ≤ 9223372036854775807) (w : World) :
    Calls Try.prog 16 #[.int .u32 a, .int .u32 b, .int .i64 n] w fun e w' => e = .returned (.int .u32 (cmb a b n : Nat)) ∧ Below w.heap.size w w' := by
  have := Combine_ok a b ha hb (n : Int) (by omega) w
  rwa [Int.toNat_natCast] at this
theorem Zeros_n (n : Nat) (hn : n ≤ 9223372036854775807) (w : World) :
    Calls Try.prog 14 #[.int .i64 n] w fun e w' => e = .returned (.int .u32 (zer n : Nat)) ∧ Below w.heap.size w w' := by
  have := Zeros_ok (n : Int) (by omega) w
  rwa [Int.toNat_natCast] at this

/-- the struct that the function has put into memory -/
def Box5 (w : World) (g : Nat) (a b c d e : Value) : Prop := w.heap[g]? = some (.cells #[a, b, c, d, e] 35 (0, 0))
theorem Box5.lt {w : World} {g : Nat} {a b c d e : Value} (h : Box5 w g a b c d e) : g < w.heap.size := (Array.getElem?_eq_some_iff.1 h).1
theorem Box5.same {w w' : World} {g : Nat} {a b c d e : Value} (h : Box5 w g a b c d e) (hB : Below w.heap.size w w') : Box5 w' g a b c d e := (hB.block g h.lt).trans h
theorem Box5.drew {w : World} {g : Nat} {a b c d e : Value} (h : Box5 w g a b c d e) : Box5 w.drew g a b c d e := h
theorem Box5.cells {w : World} {g : Nat} {a b c d e : Value} (h : Box5 w g a b c d e) :
    w.cell? ⟨g, 0, none⟩ = some a ∧ w.cell? ⟨g, 1, none⟩ = some b ∧ w.cell? ⟨g, 2, none⟩ = some c ∧ w.cell? ⟨g, 3, none⟩ = some d ∧ w.cell? ⟨g, 4, none⟩ = some e := by
  refine ⟨?_, ?_, ?_, ?_, ?_⟩ <;> (rw [cell_of_row w g _ _ _ _ h]; rfl)
theorem Box5.keep {w0 w : World} {B g : Nat} {a b c d e : Value} (h : Hid (Box5 w g a b c d e)) (hB : Hid (Below B w0 w)) :
    Hid (Box5 w g a b c d e) ∧ Hid (Below B w0 w) ∧ w.cell? ⟨g, 0, none⟩ = some a ∧ w.cell? ⟨g, 1, none⟩ = some b ∧ w.cell? ⟨g, 2, none⟩ = some c ∧ w.cell? ⟨g, 3, none⟩ = some d ∧ w.cell? ⟨g, 4, none⟩ = some e :=
  ⟨h, hB, h.out.cells⟩
theorem Box5.keepDrew {w0 w : World} {B g : Nat} {a b c d e : Value} (h : Hid (Box5 w g a b c d e)) (hB : Hid (Below B w0 w)) :
    Hid (Box5 w.drew g a b c d e) ∧ Hid (Below B w0 w.drew) ∧ w.drew.cell? ⟨g, 0, none⟩ = some a ∧ w.drew.cell? ⟨g, 1, none⟩ = some b ∧ w.drew.cell? ⟨g, 2, none⟩ = some c ∧ w.drew.cell? ⟨g, 3, none⟩ = some d ∧ w.drew.cell? ⟨g, 4, none⟩ = some e :=
  Box5.keep (w := w.drew) h (hide (belowDrew hB.out))

set_option maxHeartbeats 3200000 in
theorem carry_walk (a b c : Nat) (ha : a < 4294967296) (hb : b < 4294967296) (hc : c < 4294967296) (N M : Int) (hN : -9223372036854775808 ≤ N ∧ N ≤ 9223372036854775807) (hM : -9223372036854775808 ≤ M ∧ M ≤ 9223372036854775807) (w : World) :
    Calls Try.prog 5 #[.agg #[.int .u32 a, .int .u32 b, .int .u32 c, .int .i64 N, .int .i64 M]] w fun e w' => e = .returned (.bool true) ∧ Below w.heap.size w w' := by
  by_cases hbad : N < 0 ∨ M < 0 ∨ N ≥ 1099511627776 ∨ M ≥ 1099511627776
  · have hB1 := (Below.refl w.heap.size w).alloc (Nat.le_refl _) (.cells #[.int .u32 a, .int .u32 b, .int .u32 c, .int .i64 N, .int .i64 M] 35)
    have HB1 := hide hB1
    clear hB1
    by_cases h1 : N < 0
    · have d1 : decide (N < 0) = true := decide_eq_true h1
      clear h1 hbad
      go_enter Try.func5, Try.ntmps5
      go_wp2_with fail
      refine (works_ok _).mono ?_
      rintro e w' ⟨rfl, hB⟩
      go_wp2
      go_ret
      exact ⟨rfl, HB1.out.trans (hB.mono (by simp))⟩
    · have d1 : decide (N < 0) = false := decide_eq_false h1
      by_cases h2 : M < 0
      · have d2 : decide (M < 0) = true := decide_eq_true h2
        clear h1 h2 hbad
        go_enter Try.func5, Try.ntmps5
        go_wp2_with fail
        refine (works_ok _).mono ?_
        rintro e w' ⟨rfl, hB⟩
        go_wp2
        go_ret
        exact ⟨rfl, HB1.out.trans (hB.mono (by simp))⟩
      · have d2 : decide (M < 0) = false := decide_eq_false h2
        by_cases h3 : 1099511627776 ≤ N
        · have d3 : decide (1099511627776 ≤ N) = true := decide_eq_true h3
          clear h1 h2 h3 hbad
          go_enter Try.func5, Try.ntmps5
          go_wp2_with fail
          refine (works_ok _).mono ?_
          rintro e w' ⟨rfl, hB⟩
          go_wp2
          go_ret
          exact ⟨rfl, HB1.out.trans (hB.mono (by simp))⟩
        · have d3 : decide (1099511627776 ≤ N) = false := decide_eq_false h3
          have d4 : decide (1099511627776 ≤ M) = true := decide_eq_true (by omega)
          clear h1 h2 h3 hbad
          go_enter Try.func5, Try.ntmps5
          go_wp2_with fail
          refine (works_ok _).mono ?_
          rintro e w' ⟨rfl, hB⟩
          go_wp2
          go_ret
          exact ⟨rfl, HB1.out.trans (hB.mono (by simp))⟩
  · obtain ⟨n, rfl⟩ := Int.eq_ofNat_of_zero_le (show 0 ≤ N by omega)
    obtain ⟨m, rfl⟩ := Int.eq_ofNat_of_zero_le (show 0 ≤ M by omega)
    have d1 : decide ((n : Int) < 0) = false := decide_eq_false (by omega)
    have d2 : decide ((m : Int) < 0) = false := decide_eq_false (by omega)
    have d3 : decide (1099511627776 ≤ (n : Int)) = false := decide_eq_false (by omega)
    have d4 : decide (1099511627776 ≤ (m : Int)) = false := decide_eq_false (by omega)
    have hn : n < 1099511627776 := by omega
    have hm : m < 1099511627776 := by omega
    have hw1 : IntKind.i64.wrap ((n : Int) + (m : Int)) = (n : Int) + (m : Int) := by rw [IntKind.wrap_i64]; omega
    have K1 := hide (Combine_n a b n ha hb (by omega))
    have K2 := hide (Combine_n b c m hb hc (by omega))
    have K3 := hide (Combine_n (cmb a b n) c m (cmb_lt n ha hb) hc (by omega))
    have K4 : Hid (∀ w : World, Calls Try.prog 16 #[.int .u32 a, .int .u32 (cmb b c m : Nat), .int .i64 ((n : Int) + (m : Int))] w fun e w' => e = .returned (.int .u32 (cmb a (cmb b c m) (n + m) : Nat)) ∧ Below w.heap.size w w') := hide (Combine_n a (cmb b c m) (n + m) ha (cmb_lt m hb hc) (by omega))
    have K5 : Hid (∀ w : World, Calls Try.prog 16 #[.int .u32 a, .int .u32 0, .int .i64 0] w fun e w' => e = .returned (.int .u32 (cmb a 0 0 : Nat)) ∧ Below w.heap.size w w') := hide (Combine_n a 0 0 ha (by omega) (by omega))
    have K6 : Hid (∀ w : World, Calls Try.prog 16 #[.int .u32 0, .int .u32 b, .int .i64 n] w fun e w' => e = .returned (.int .u32 (cmb 0 b n : Nat)) ∧ Below w.heap.size w w') := hide (Combine_n 0 b n (by omega) hb (by omega))
    have K7 := hide (Zeros_n n (by omega))
    have K8 := hide (Zeros_n m (by omega))
    have K9 : Hid (∀ w : World, Calls Try.prog 14 #[.int .i64 ((n : Int) + (m : Int))] w fun e w' => e = .returned (.int .u32 (zer (n + m) : Nat)) ∧ Below w.heap.size w w') := hide (Zeros_n (n + m) (by omega))
    have K10 := hide (Combine_n (zer n) (zer m) m (zer_lt n) (zer_lt m) (by omega))
    rw [cmb_assoc] at K4
    rw [cmb_nil] at K5
    rw [cmb_zero] at K6
    rw [cmb_zer] at K9
    clear hbad hN hM
    generalize cmb (cmb a b n) c m = x1 at *
    generalize cmb (zer n) (zer m) m = x2 at *
    generalize cmb a b n = x3 at *
    generalize cmb b c m = x4 at *
    generalize zer n = x5 at *
    generalize zer m = x6 at *
    go_enter Try.func5, Try.ntmps5
    go_wp2_with fail
    have hbx0 : Box5 (w.alloc (.cells #[.int .u32 a, .int .u32 b, .int .u32 c, .int .i64 n, .int .i64 m] 35)) w.heap.size (.int .u32 a) (.int .u32 b) (.int .u32 c) (.int .i64 n) (.int .i64 m) := heap_alloc_new w _
    have HX0 := hide hbx0
    clear hbx0
    go_quiet (fail)
    go_wp2_with fail
    refine (K1.out _).mono ?_
    rintro e w1 ⟨rfl, hB1⟩
    have HX1 := hide (Box5.same (w := (w.alloc (.cells #[.int .u32 a, .int .u32 b, .int .u32 c, .int .i64 n, .int .i64 m] 35)).drewN nq) HX0.out hB1)
    have HB1 := hide ((belowDrewN ((Below.refl w.heap.size w).alloc (Nat.le_refl _) (.cells #[.int .u32 a, .int .u32 b, .int .u32 c, .int .i64 n, .int .i64 m] 35)) nq).trans (hB1.mono (by simp)))
    obtain ⟨e0, e1, e2, e3, e4⟩ := HX1.out.cells
    clear hB1
    go_wp2_with fail
    refine (K2.out _).mono ?_
    rintro e w2 ⟨rfl, hB2⟩
    have HX2 := hide (HX1.out.same hB2)
    have HB2 := hide (HB1.out.trans (hB2.mono HB1.out.size))
    clear e0 e1 e2 e3 e4 hB2
    obtain ⟨e0, e1, e2, e3, e4⟩ := HX2.out.cells
    go_wp2_with fail
    go_region_held3 (fun w' => Hid (Box5 w' w.heap.size (.int .u32 a) (.int .u32 b) (.int .u32 c) (.int .i64 n) (.int .i64 m)) ∧ Hid (Below w.heap.size w w') ∧ w'.cell? ⟨w.heap.size, 0, none⟩ = some (.int .u32 a) ∧ w'.cell? ⟨w.heap.size, 1, none⟩ = some (.int .u32 b) ∧ w'.cell? ⟨w.heap.size, 2, none⟩ = some (.int .u32 c) ∧ w'.cell? ⟨w.heap.size, 3, none⟩ = some (.int .i64 n) ∧ w'.cell? ⟨w.heap.size, 4, none⟩ = some (.int .i64 m))
      (first | exact Box5.keep (by assumption) (by assumption) | exact Box5.keepDrew HX2 HB2)
      (first
        | (go_at_call 16; with_reducible refine (K3.out _).mono ?_; rintro e w3 ⟨rfl, hB3⟩; have HX3 := hide (HX2.out.drew.same hB3); have HB3 := hide ((belowDrew HB2.out).trans (hB3.mono (belowDrew HB2.out).size)))
        | (go_at_call 16; with_reducible refine (K4.out _).mono ?_; rintro e w4 ⟨rfl, hB4⟩; have HX4 := hide (HX3.out.same hB4); have HB4 := hide (HB3.out.trans (hB4.mono HB3.out.size)))
        | (go_at_call 16; with_reducible refine (K5.out _).mono ?_; rintro e w5 ⟨rfl, hB5⟩; have HX5 := hide (HX4.out.same hB5); have HB5 := hide (HB4.out.trans (hB5.mono HB4.out.size)))
        | (go_at_call 16; with_reducible refine (K6.out _).mono ?_; rintro e w6 ⟨rfl, hB6⟩; have HX6 := hide (HX5.out.same hB6); have HB6 := hide (HB5.out.trans (hB6.mono HB5.out.size))))
    go_wp2_with fail
    refine (K7.out _).mono ?_
    rintro e w7 ⟨rfl, hB7⟩
    have HB7 := hide (HB6.out.trans (hB7.mono HB6.out.size))
    clear hB7
    go_wp2_with fail
    refine (K8.out _).mono ?_
    rintro e w8 ⟨rfl, hB8⟩
    have HB8 := hide (HB7.out.trans (hB8.mono HB7.out.size))
    clear hB8
    go_wp2_with fail
    refine (K10.out _).mono ?_
    rintro e w9 ⟨rfl, hB9⟩
    have HB9 := hide (HB8.out.trans (hB9.mono HB8.out.size))
    clear hB9
    go_wp2_with fail
    refine (K9.out _).mono ?_
    rintro e w10 ⟨rfl, hB10⟩
    have HB10 := hide (HB9.out.trans (hB10.mono HB9.out.size))
    clear hB10
    go_wp2_with fail
    refine (works_ok _).mono ?_
    rintro e w11 ⟨rfl, hB11⟩
    have HB11 := hide (HB10.out.trans (hB11.mono HB10.out.size))
    go_wp2
    go_ret
    exact ⟨rfl, HB11.out⟩
end Go.Proofs.Ytbcdalgfceagcaa
