/- Walks of (*moves).of, crc.carry, crc.Zeros, crc.Combine. -/
import Derived.Test.YtbcdalgfceagcaaCrcInto
namespace Go.Proofs.Ytbcdalgfceagcaa
open Go.RowKit

theorem ofInt_i64' (a : Nat) (ha : a < 9223372036854775808) : (BitVec.ofInt 64 (a : Int)).toNat = a := by
  rw [BitVec.ofInt_natCast, BitVec.toNat_ofNat]; exact Nat.mod_eq_of_lt (by omega)
theorem i64_and_nat' (a b : Nat) (ha : a < 9223372036854775808) (hb : b < 9223372036854775808) : bits .and .i64 (a : Int) (b : Int) = ((a &&& b : Nat) : Int) := by
  have hx : a &&& b < 2 ^ 63 := Nat.and_lt_two_pow _ (by omega)
  show IntKind.i64.wrap ((BitVec.ofInt 64 (a : Int) &&& BitVec.ofInt 64 (b : Int)).toNat : Int) = _
  rw [BitVec.toNat_and, ofInt_i64' a ha, ofInt_i64' b hb, IntKind.wrap_i64]
  omega
theorem low_step (x i : Nat) : x % 2 ^ (i + 1) = if x / 2 ^ i % 2 = 1 then (x % 2 ^ i) ^^^ 2 ^ i else x % 2 ^ i := by
  rw [Nat.mod_pow_succ]
  have hlt : x % 2 ^ i < 2 ^ i := Nat.mod_lt _ (Nat.two_pow_pos i)
  rcases Nat.mod_two_eq_zero_or_one (x / 2 ^ i) with h | h
  · rw [h, if_neg (by omega), Nat.mul_zero, Nat.add_zero]
  · have := join_xor i (x % 2 ^ i) 1 hlt
    rw [Nat.mul_one] at this
    rw [h, if_pos rfl, Nat.mul_one, this]
theorem join_xor1 (x i : Nat) : x % 2 ^ i + 2 ^ i = (x % 2 ^ i) ^^^ 2 ^ i := by
  have := join_xor i (x % 2 ^ i) 1 (Nat.mod_lt _ (Nat.two_pow_pos i))
  rwa [Nat.mul_one] at this
theorem high_step (x i : Nat) : x / 2 ^ i / 2 = x / 2 ^ (i + 1) := by rw [Nat.div_div_eq_div_mul, Nat.pow_succ]

set_option maxHeartbeats 800000 in
theorem of_ok (g n x0 : Nat) (hx0 : x0 < 4294967296) (w : World) (hc : ∀ j, j < 32 → w.cell? ⟨g, j, none⟩ = some (.int .u32 (stpN n (2 ^ j) : Nat))) :
    Calls Try.prog 44 #[.pointer (some ⟨g, 0, none⟩), .int .u32 x0] w fun e w' => e = .returned (.int .u32 (stpN n x0 : Nat)) ∧ w = w' := by
  go_enter Try.func44, Try.ntmps44
  go_wp2
  go_loop [1, 5, 6] (fun x y i => ∃ k : Nat, k ≤ 32 ∧ i = .int .i64 k ∧ x = .int .u32 (x0 / 2 ^ k : Nat) ∧ y = .int .u32 (stpN n (x0 % 2 ^ k) : Nat)) (fun _ _ i => 32 - (intOf i).toNat)
  case atStart => exact ⟨0, Nat.zero_le _, rfl, by simp, by rw [Nat.pow_zero, Nat.mod_one, stpN_zero]; rfl⟩
  case round =>
    obtain ⟨k, hk, rfl, rfl, rfl⟩ := hrel
    have hlow := hide (low_step x0 k)
    have hhigh := hide (high_step x0 k)
    have hxl : x0 / 2 ^ k < 4294967296 := Nat.lt_of_le_of_lt (Nat.div_le_self _ _) hx0
    have hyl := stpN_lt n (Nat.lt_of_le_of_lt (Nat.mod_le x0 (2 ^ k)) hx0)
    have hml : stpN n (2 ^ k) < 4294967296 ∨ k = 32 := by
      by_cases e : k = 32
      · exact .inr e
      · exact .inl (stpN_lt n (Nat.pow_lt_pow_right (by omega) (by omega : k < 32)))
    have hz : x0 / 2 ^ k ≠ 0 → k < 32 := fun h => by
      by_cases e : k = 32
      · subst e; exact absurd (Nat.div_eq_of_lt hx0) h
      · omega
    have hfin : Hid (x0 / 2 ^ k = 0 → x0 % 2 ^ k = x0) := hide (fun h => Nat.mod_eq_of_lt ((Nat.div_eq_zero_iff_lt (Nat.two_pow_pos k)).1 h))
    have hxr : stpN n (x0 % 2 ^ k) < 4294967296 → stpN n (2 ^ k) < 4294967296 → bits .xor .u32 ((stpN n (x0 % 2 ^ k) : Nat) : Int) ((stpN n (2 ^ k) : Nat) : Int) = ((stpN n ((x0 % 2 ^ k) ^^^ 2 ^ k) : Nat) : Int) := fun h1 h2 => by
      rw [stpN_xor]; exact u32xor _ _ h1 h2
    have hcell := fun h => hc k h
    generalize hX : x0 / 2 ^ k = x at *
    generalize hY : stpN n (x0 % 2 ^ k) = y at *
    generalize hM : stpN n (2 ^ k) = m at *
    generalize hYM : stpN n ((x0 % 2 ^ k) ^^^ 2 ^ k) = ym at *
    have HX := hide hX
    have HY := hide hY
    have HYM := hide hYM
    clear hX hY hM hYM
    by_cases h0 : x = 0
    · have hb : ((x : Int) != 0) = false := by simp [h0]
      have H0 := hide h0
      clear h0 hz hml hxr hcell
      go_wp2
      go_ret
      exact ⟨by rw [← HY.out, hfin.out H0.out] <;> rfl, rfl⟩
    · have hb : ((x : Int) != 0) = true := by simp [h0]
      have hk32 := hz h0
      have hcx := hcell hk32
      have hml' := hml.resolve_right (by omega)
      have hxx := hxr hyl hml'
      have e2 : bits .and .u32 (x : Int) 1 = ((x % 2 : Nat) : Int) := by have := u32_and_nat x 1 hxl (by omega); rw [nat_mask1] at this; exact this
      clear h0 hz hml hxr hcell
      by_cases hodd : x % 2 = 1
      · have hb2 : (((x % 2 : Nat) : Int) == 1) = true := by simp [hodd]
        have HL := hide (hlow.out.trans (if_pos hodd))
        clear hodd hc
        go_wp2
        go_round
        case rel => exact ⟨k + 1, by omega, by go_num, by rw [← hhigh.out]; go_num, by rw [HL.out, HYM.out]⟩
        case measure => simp [intOf]; omega
      · have hb2 : (((x % 2 : Nat) : Int) == 1) = false := by simp; omega
        have HL := hide (hlow.out.trans (if_neg hodd))
        clear hodd hc
        go_wp2
        go_round
        case rel => exact ⟨k + 1, by omega, by go_num, by rw [← hhigh.out]; go_num, by rw [HL.out, HY.out]⟩
        case measure => simp [intOf]; omega

/-- 32 numbers in a block -/
def U32At (w : World) (g : Nat) (M : Nat → Nat) : Prop := ∃ cs : Array Value, w.heap[g]? = some (.cells cs 73 (0, 0)) ∧ cs.size = 32 ∧ ∀ j, j < 32 → cs[j]? = some (.int .u32 (M j : Nat))
theorem U32At.cell {w : World} {g : Nat} {M : Nat → Nat} (h : U32At w g M) (j : Nat) (hj : j < 32) : w.cell? ⟨g, j, none⟩ = some (.int .u32 (M j : Nat)) := by
  obtain ⟨cs, hg, _, hc⟩ := h
  simp [World.cell?, hg, hc j hj]
theorem U32At.free {w : World} {g : Nat} {M : Nat → Nat} (h : U32At w g M) (j : Nat) : w.frozen? ⟨g, j, none⟩ = false := by
  obtain ⟨cs, hg, _, _⟩ := h
  simp [World.frozen?, hg]
theorem U32At.lt {w : World} {g : Nat} {M : Nat → Nat} (h : U32At w g M) : g < w.heap.size := by
  obtain ⟨cs, hg, _⟩ := h; exact (Array.getElem?_eq_some_iff.1 hg).1
theorem U32At.same {w w' : World} {g : Nat} {M : Nat → Nat} (h : U32At w g M) (e : w'.heap[g]? = w.heap[g]?) : U32At w' g M := by unfold U32At; rw [e]; exact h
theorem U32At.congr {w : World} {g : Nat} {M M' : Nat → Nat} (h : U32At w g M) (e : ∀ j, j < 32 → M' j = M j) : U32At w g M' := by
  obtain ⟨cs, h1, h2, h3⟩ := h
  exact ⟨cs, h1, h2, fun j hj => by rw [h3 j hj, e j hj]⟩
theorem U32At.set {w : World} {g : Nat} {M M' : Nat → Nat} (h : U32At w g M) (i : Nat) (x : Nat) (hi : M' i = x) (ho : ∀ j, j ≠ i → M' j = M j) : U32At (w.setCell ⟨g, i, none⟩ (.int .u32 (x : Nat))) g M' := by
  obtain ⟨cs, hg, hz, hc⟩ := h
  refine ⟨cs.setIfInBounds i (.int .u32 (x : Nat)), ?_, by simpa using hz, fun j hj => ?_⟩
  · rw [World.setCell]
    simp only [Array.getElem?_modify, if_true, hg]
    simp
  · by_cases e : j = i
    · subst e; simp [hi, hz, hj]
    · rw [Array.getElem?_setIfInBounds_ne (by omega), hc j hj, ho j e]
theorem U32At.new (w : World) : U32At (w.alloc (.cells #[.int .u32 0, .int .u32 0, .int .u32 0, .int .u32 0, .int .u32 0, .int .u32 0, .int .u32 0, .int .u32 0, .int .u32 0, .int .u32 0, .int .u32 0, .int .u32 0, .int .u32 0, .int .u32 0, .int .u32 0, .int .u32 0, .int .u32 0, .int .u32 0, .int .u32 0, .int .u32 0, .int .u32 0, .int .u32 0, .int .u32 0, .int .u32 0, .int .u32 0, .int .u32 0, .int .u32 0, .int .u32 0, .int .u32 0, .int .u32 0, .int .u32 0, .int .u32 0] 73)) w.heap.size (fun _ => 0) := by
  refine ⟨_, heap_alloc_new _ _, rfl, fun j hj => ?_⟩
  have e : (#[.int .u32 0, .int .u32 0, .int .u32 0, .int .u32 0, .int .u32 0, .int .u32 0, .int .u32 0, .int .u32 0, .int .u32 0, .int .u32 0, .int .u32 0, .int .u32 0, .int .u32 0, .int .u32 0, .int .u32 0, .int .u32 0, .int .u32 0, .int .u32 0, .int .u32 0, .int .u32 0, .int .u32 0, .int .u32 0, .int .u32 0, .int .u32 0, .int .u32 0, .int .u32 0, .int .u32 0, .int .u32 0, .int .u32 0, .int .u32 0, .int .u32 0, .int .u32 0] : Array Value) = Array.replicate 32 (.int .u32 0) := rfl
  rw [e]
  simp [hj]
theorem below_setAt {B g i : Nat} {w0 w : World} {u : Value} (h : Below B w0 w) (hg : B ≤ g) : Below B w0 (w.setCell ⟨g, i, none⟩ u) := h.setCell (p := ⟨g, i, none⟩) hg u

set_option maxHeartbeats 3200000 in
set_option maxRecDepth 100000 in
theorem carry_ok (x0 : Nat) (hx0 : x0 < 4294967296) (n : Int) (hn : n ≤ 9223372036854775807) (w : World) :
    Calls Try.prog 37 #[.int .u32 x0, .int .i64 n] w fun e w' => e = .returned (.int .u32 (stpN (8 * n.toNat) x0 : Nat)) ∧ Below w.heap.size w w' := by
  go_enter Try.func37, Try.ntmps37
  go_wp2
  have hN := U32At.new w
  have hB0 : Below w.heap.size w (w.alloc (.cells #[.int .u32 0, .int .u32 0, .int .u32 0, .int .u32 0, .int .u32 0, .int .u32 0, .int .u32 0, .int .u32 0, .int .u32 0, .int .u32 0, .int .u32 0, .int .u32 0, .int .u32 0, .int .u32 0, .int .u32 0, .int .u32 0, .int .u32 0, .int .u32 0, .int .u32 0, .int .u32 0, .int .u32 0, .int .u32 0, .int .u32 0, .int .u32 0, .int .u32 0, .int .u32 0, .int .u32 0, .int .u32 0, .int .u32 0, .int .u32 0, .int .u32 0, .int .u32 0] 73)) := (Below.refl _ _).alloc (Nat.le_refl _) _
  go_loopw [9] (fun i wr => ∃ k : Nat, k ≤ 32 ∧ i = .int .i64 k ∧ U32At wr w.heap.size (fun j => if j < k then stpN 8 (2 ^ j) else 0) ∧ Below w.heap.size w wr) (fun i _ => 32 - (intOf i).toNat)
  case atStart => exact ⟨0, Nat.zero_le _, rfl, hN.congr (fun j hj => if_neg (by omega)), hB0⟩
  case round =>
    clear hN hB0
    obtain ⟨k, hk, rfl, hU, hB⟩ := hrel
    by_cases hlt : k < 32
    · have hp : (2 : Nat) ^ k < 4294967296 := Nat.pow_lt_pow_right (by omega) (by omega : k < 32)
      have HPE := hide (show ((2 : Int) ^ k % 4294967296) = ((2 ^ k : Nat) : Int) by
        rw [show ((2 : Int) ^ k) = ((2 ^ k : Nat) : Int) from (Int.natCast_pow 2 k).symm]
        exact Int.emod_eq_of_lt (Int.natCast_nonneg _) (Int.ofNat_lt.2 hp))
      have HP := hide hp
      have HIN : Hid (intoL (2 ^ k) [0] = stpN 8 (2 ^ k)) := hide (by show byt (2 ^ k) 0 = _; unfold byt; rw [Nat.xor_zero])
      clear hp
      go_wp2_with fail
      rw [HPE.out]
      refine (into_ok (2 ^ k) HP.out (some ⟨wr.heap.size, 0, none⟩) 1 [0] _ (by simp) (by simp) (fun j hj => ⟨_, _, rfl, ?_⟩)).mono ?_
      · have : j = 0 := by simp at hj; exact hj
        subst this
        rw [World.cell?_alloc_at _ _ _ _ rfl]; rfl
      rw [HIN.out]
      rintro e w1 ⟨rfl, hB1⟩
      have hB1' := (hB.alloc hB.size (.cells #[.int .u8 0] 5)).trans (hB1.mono (by have := hB.size; simp; omega))
      have hU1 := hU.same ((hB1.block _ (by simp; have := hU.lt; omega)).trans (Below.heap_alloc _ _ _ hU.lt))
      have hcx := hU1.cell k hlt
      have hfz := hU1.free k
      have HU := hide (hU1.set (M' := fun j => if j < k + 1 then stpN 8 (2 ^ j) else 0) k (stpN 8 (2 ^ k)) (by simp) (fun j hj => by by_cases e : j < k <;> simp [e, show (j < k + 1) = (j < k) by simp; omega]))
      have HB := hide (below_setAt (i := k) (u := .int .u32 (stpN 8 (2 ^ k) : Nat)) hB1' (Nat.le_refl _))
      clear hU hU1 hB hB1 hB1'
      generalize stpN 8 (2 ^ k) = v8 at *
      go_wp2
      go_roundw
      case rel => exact ⟨k + 1, by omega, by go_num, HU.out, HB.out⟩
      case measure => simp [intOf]; omega
    · have hk32 : k = 32 := by omega
      have hU32 : U32At wr w.heap.size (fun j => stpN (8 * 2 ^ 0) (2 ^ j)) := hU.congr (fun j hj => by simp [show j < k by omega])
      clear hU hk32
      by_cases hneg : n < 0
      · have HN0 : Hid (n.toNat = 0) := hide (by omega)
        go_wp2_with fail
        refine wp_loop_rounds 1 ?_
        rw [rounds_succ]
        go_wp2
        go_ret
        exact ⟨by rw [HN0.out] <;> rfl, hB⟩
      · obtain ⟨N, rfl⟩ := Int.eq_ofNat_of_zero_le (show 0 ≤ n by omega)
        go_wp2_with fail
        go_loopw [0, 1] (fun x n' wr => ∃ t : Nat, n' = .int .i64 (N / 2 ^ t : Nat) ∧ x = .int .u32 (stpN (8 * (N % 2 ^ t)) x0 : Nat) ∧ U32At wr w.heap.size (fun j => stpN (8 * 2 ^ t) (2 ^ j)) ∧ Below w.heap.size w wr) (fun _ n' _ => (intOf n').toNat)
        case atStart => exact ⟨0, by simp, by rw [Nat.pow_zero, Nat.mod_one]; rfl, hU32, hB⟩
        case round =>
          clear hU32 hB
          obtain ⟨t, rfl, rfl, hU, hB⟩ := hrel
          have hlow := hide (low_step N t)
          have hhigh := hide (high_step N t)
          have hNt : N / 2 ^ t ≤ 9223372036854775807 := Nat.le_trans (Nat.div_le_self _ _) (by omega)
          have hfin : Hid (N / 2 ^ t = 0 → N % 2 ^ t = N) := hide (fun h => Nat.mod_eq_of_lt ((Nat.div_eq_zero_iff_lt (Nat.two_pow_pos t)).1 h))
          have hxl := stpN_lt (8 * (N % 2 ^ t)) hx0
          have hsq : Hid (∀ j, stpN (8 * 2 ^ t) (stpN (8 * 2 ^ t) (2 ^ j)) = stpN (8 * 2 ^ (t + 1)) (2 ^ j)) := hide (fun j => by rw [← stpN_add]; congr 1; rw [Nat.pow_succ]; omega)
          have hodd1 : Hid (stpN (8 * 2 ^ t) (stpN (8 * (N % 2 ^ t)) x0) = stpN (8 * (N % 2 ^ t + 2 ^ t)) x0) := hide (by rw [← stpN_add]; congr 1; omega)
          generalize hV : N / 2 ^ t = v at *
          generalize hX : stpN (8 * (N % 2 ^ t)) x0 = x at *
          have HV := hide hV
          have HX := hide hX
          clear hV hX
          obtain ⟨wo, rfl⟩ : ∃ wo : World, wo = wr := ⟨_, rfl⟩
          by_cases h0 : 0 < v
          · have e2 : bits .and .i64 (v : Int) 1 = ((v % 2 : Nat) : Int) := by
              have := i64_and_nat' v 1 (by omega) (by omega)
              rw [nat_mask1] at this; exact this
            by_cases hodd : v % 2 = 1
            · have hb2 : (((v % 2 : Nat) : Int) == 1) = true := by simp [hodd]
              have hb3 : ((v : Int) % 2 == 1) = true := by simp; omega
              have HL := hide (hlow.out.trans (if_pos hodd))
              clear hodd
              go_wp2_with fail
              refine (of_ok w.heap.size (8 * 2 ^ t) x hxl wo (fun j hj => hU.cell j hj)).mono ?_
              rintro e w' ⟨rfl, rfl⟩
              go_wp2_with fail
              have hT := U32At.new wo
              have hBt := hB.alloc hB.size (.cells #[.int .u32 0, .int .u32 0, .int .u32 0, .int .u32 0, .int .u32 0, .int .u32 0, .int .u32 0, .int .u32 0, .int .u32 0, .int .u32 0, .int .u32 0, .int .u32 0, .int .u32 0, .int .u32 0, .int .u32 0, .int .u32 0, .int .u32 0, .int .u32 0, .int .u32 0, .int .u32 0, .int .u32 0, .int .u32 0, .int .u32 0, .int .u32 0, .int .u32 0, .int .u32 0, .int .u32 0, .int .u32 0, .int .u32 0, .int .u32 0, .int .u32 0, .int .u32 0] 73)
              have hgl := hU.lt
              have hUm := hU.same (w' := wo.alloc (.cells #[.int .u32 0, .int .u32 0, .int .u32 0, .int .u32 0, .int .u32 0, .int .u32 0, .int .u32 0, .int .u32 0, .int .u32 0, .int .u32 0, .int .u32 0, .int .u32 0, .int .u32 0, .int .u32 0, .int .u32 0, .int .u32 0, .int .u32 0, .int .u32 0, .int .u32 0, .int .u32 0, .int .u32 0, .int .u32 0, .int .u32 0, .int .u32 0, .int .u32 0, .int .u32 0, .int .u32 0, .int .u32 0, .int .u32 0, .int .u32 0, .int .u32 0, .int .u32 0] 73)) (Below.heap_alloc _ _ _ hU.lt)
              go_loopw [28] (fun i wr2 => ∃ k : Nat, k ≤ 32 ∧ i = .int .i64 k ∧ U32At wr2 wo.heap.size (fun j => if j < k then stpN (8 * 2 ^ t) (stpN (8 * 2 ^ t) (2 ^ j)) else 0) ∧ U32At wr2 w.heap.size (fun j => stpN (8 * 2 ^ t) (2 ^ j)) ∧ Below w.heap.size w wr2) (fun i _ => 32 - (intOf i).toNat)
              case atStart => exact ⟨0, Nat.zero_le _, rfl, hT.congr (fun j hj => if_neg (by omega)), hUm, hBt⟩
              case round =>
                clear hT hBt hUm hU hB
                obtain ⟨k, hk, rfl, hT, hU, hB⟩ := hrel
                by_cases hlt : k < 32
                · have hcm := hU.cell k hlt
                  have hct := hT.cell k hlt
                  have hfz := hT.free k
                  have hml := stpN_lt (8 * 2 ^ t) (Nat.pow_lt_pow_right (by omega) hlt : (2 : Nat) ^ k < 2 ^ 32)
                  have HT := hide (hT.set (M' := fun j => if j < k + 1 then stpN (8 * 2 ^ t) (stpN (8 * 2 ^ t) (2 ^ j)) else 0) k (stpN (8 * 2 ^ t) (stpN (8 * 2 ^ t) (2 ^ k))) (by simp) (fun j hj => by by_cases e : j < k <;> simp [e, show (j < k + 1) = (j < k) by simp; omega]))
                  have HUc := hide (fun j hj => hU.cell j hj)
                  have HU := hide (fun u => hU.same (w' := wr.setCell ⟨wo.heap.size, k, none⟩ u) (Below.heap_setCell _ _ _ _ (by simp; omega)))
                  have HB := hide (fun u => below_setAt (i := k) (u := u) hB (show w.heap.size ≤ wo.heap.size by omega))
                  have HO := hide (of_ok w.heap.size (8 * 2 ^ t) (stpN (8 * 2 ^ t) (2 ^ k)) hml wr HUc.out)
                  clear hT hU hB HUc
                  generalize stpN (8 * 2 ^ t) (2 ^ k) = mk at *
                  go_wp2_with fail
                  refine HO.out.mono ?_
                  rintro e w' ⟨rfl, rfl⟩
                  go_wp2
                  go_roundw
                  case rel => exact ⟨k + 1, by omega, by go_num, HT.out, HU.out _, HB.out _⟩
                  case measure => simp [intOf]; omega
                · have hk32 : k = 32 := by omega
                  have hTe : U32At wr wo.heap.size (fun j => stpN (8 * 2 ^ (t + 1)) (2 ^ j)) := hT.congr (fun j hj => by rw [if_pos (by omega), hsq.out])
                  obtain ⟨cs, hg1, hg2, hg3⟩ := hTe
                  obtain ⟨cm, hm1, hm2, hm3⟩ := hU
                  have hsz : (Try.prog.info? 73).map (·.size) = some cs.size := by rw [hg2]; kernel_rfl
                  have hone : cs.all (·.oneCell') = true := by
                    rw [Array.all_eq_true_iff_forall_mem]
                    intro x hx
                    obtain ⟨j, hj, rfl⟩ := Array.mem_iff_getElem.1 hx
                    have := hg3 j (by omega)
                    rw [Array.getElem?_eq_getElem hj] at this
                    injection this with this
                    rw [this]; rfl
                  have HG1 := hide hg1
                  have HM1 := hide hm1
                  have hsm : cm.size = cs.size := by omega
                  have HU2 : Hid (U32At (wr.setRow w.heap.size cs) w.heap.size (fun j => stpN (8 * 2 ^ (t + 1)) (2 ^ j))) := hide ⟨cs, setRow_heap _ _ _ _ _ _ hm1, hg2, hg3⟩
                  have HB2 := hide (below_setRow' hB (Nat.le_refl _) cs)
                  clear hT hg1 hg3 hm1 hm3 hB hg2 hm2 hk32
                  go_wp2_with (first
                    | (refine wpList_load_row rfl 73 (.tmp 7) rfl wo.heap.size rfl 73 cs (0, 0) _ HG1.out Try.underlying73 rfl hsz ?_)
                    | (refine wpList_store_row rfl 73 (.tmp 5) (.tmp 38) rfl w.heap.size cs rfl rfl 73 _ HM1.out hsz hsm hone ?_))
                  go_roundw
                  case rel => exact ⟨t + 1, by rw [← hhigh.out]; go_num, by rw [HL.out, ← join_xor1 N t, ← hodd1.out], HU2.out, HB2.out⟩
                  case measure => simp [intOf]; omega
            · have hb2 : (((v % 2 : Nat) : Int) == 1) = false := by simp; omega
              have hb3 : ((v : Int) % 2 == 1) = false := by simp; omega
              have HL := hide (hlow.out.trans (if_neg hodd))
              clear hodd
              go_wp2_with fail
              have hT := U32At.new wo
              have hBt := hB.alloc hB.size (.cells #[.int .u32 0, .int .u32 0, .int .u32 0, .int .u32 0, .int .u32 0, .int .u32 0, .int .u32 0, .int .u32 0, .int .u32 0, .int .u32 0, .int .u32 0, .int .u32 0, .int .u32 0, .int .u32 0, .int .u32 0, .int .u32 0, .int .u32 0, .int .u32 0, .int .u32 0, .int .u32 0, .int .u32 0, .int .u32 0, .int .u32 0, .int .u32 0, .int .u32 0, .int .u32 0, .int .u32 0, .int .u32 0, .int .u32 0, .int .u32 0, .int .u32 0, .int .u32 0] 73)
              have hgl := hU.lt
              have hUm := hU.same (w' := wo.alloc (.cells #[.int .u32 0, .int .u32 0, .int .u32 0, .int .u32 0, .int .u32 0, .int .u32 0, .int .u32 0, .int .u32 0, .int .u32 0, .int .u32 0, .int .u32 0, .int .u32 0, .int .u32 0, .int .u32 0, .int .u32 0, .int .u32 0, .int .u32 0, .int .u32 0, .int .u32 0, .int .u32 0, .int .u32 0, .int .u32 0, .int .u32 0, .int .u32 0, .int .u32 0, .int .u32 0, .int .u32 0, .int .u32 0, .int .u32 0, .int .u32 0, .int .u32 0, .int .u32 0] 73)) (Below.heap_alloc _ _ _ hU.lt)
              go_loopw [28] (fun i wr2 => ∃ k : Nat, k ≤ 32 ∧ i = .int .i64 k ∧ U32At wr2 wo.heap.size (fun j => if j < k then stpN (8 * 2 ^ t) (stpN (8 * 2 ^ t) (2 ^ j)) else 0) ∧ U32At wr2 w.heap.size (fun j => stpN (8 * 2 ^ t) (2 ^ j)) ∧ Below w.heap.size w wr2) (fun i _ => 32 - (intOf i).toNat)
              case atStart => exact ⟨0, Nat.zero_le _, rfl, hT.congr (fun j hj => if_neg (by omega)), hUm, hBt⟩
              case round =>
                clear hT hBt hUm hU hB
                obtain ⟨k, hk, rfl, hT, hU, hB⟩ := hrel
                by_cases hlt : k < 32
                · have hcm := hU.cell k hlt
                  have hct := hT.cell k hlt
                  have hfz := hT.free k
                  have hml := stpN_lt (8 * 2 ^ t) (Nat.pow_lt_pow_right (by omega) hlt : (2 : Nat) ^ k < 2 ^ 32)
                  have HT := hide (hT.set (M' := fun j => if j < k + 1 then stpN (8 * 2 ^ t) (stpN (8 * 2 ^ t) (2 ^ j)) else 0) k (stpN (8 * 2 ^ t) (stpN (8 * 2 ^ t) (2 ^ k))) (by simp) (fun j hj => by by_cases e : j < k <;> simp [e, show (j < k + 1) = (j < k) by simp; omega]))
                  have HUc := hide (fun j hj => hU.cell j hj)
                  have HU := hide (fun u => hU.same (w' := wr.setCell ⟨wo.heap.size, k, none⟩ u) (Below.heap_setCell _ _ _ _ (by simp; omega)))
                  have HB := hide (fun u => below_setAt (i := k) (u := u) hB (show w.heap.size ≤ wo.heap.size by omega))
                  have HO := hide (of_ok w.heap.size (8 * 2 ^ t) (stpN (8 * 2 ^ t) (2 ^ k)) hml wr HUc.out)
                  clear hT hU hB HUc
                  generalize stpN (8 * 2 ^ t) (2 ^ k) = mk at *
                  go_wp2_with fail
                  refine HO.out.mono ?_
                  rintro e w' ⟨rfl, rfl⟩
                  go_wp2
                  go_roundw
                  case rel => exact ⟨k + 1, by omega, by go_num, HT.out, HU.out _, HB.out _⟩
                  case measure => simp [intOf]; omega
                · have hk32 : k = 32 := by omega
                  have hTe : U32At wr wo.heap.size (fun j => stpN (8 * 2 ^ (t + 1)) (2 ^ j)) := hT.congr (fun j hj => by rw [if_pos (by omega), hsq.out])
                  obtain ⟨cs, hg1, hg2, hg3⟩ := hTe
                  obtain ⟨cm, hm1, hm2, hm3⟩ := hU
                  have hsz : (Try.prog.info? 73).map (·.size) = some cs.size := by rw [hg2]; kernel_rfl
                  have hone : cs.all (·.oneCell') = true := by
                    rw [Array.all_eq_true_iff_forall_mem]
                    intro x hx
                    obtain ⟨j, hj, rfl⟩ := Array.mem_iff_getElem.1 hx
                    have := hg3 j (by omega)
                    rw [Array.getElem?_eq_getElem hj] at this
                    injection this with this
                    rw [this]; rfl
                  have HG1 := hide hg1
                  have HM1 := hide hm1
                  have hsm : cm.size = cs.size := by omega
                  have HU2 : Hid (U32At (wr.setRow w.heap.size cs) w.heap.size (fun j => stpN (8 * 2 ^ (t + 1)) (2 ^ j))) := hide ⟨cs, setRow_heap _ _ _ _ _ _ hm1, hg2, hg3⟩
                  have HB2 := hide (below_setRow' hB (Nat.le_refl _) cs)
                  clear hT hg1 hg3 hm1 hm3 hB hg2 hm2 hk32
                  go_wp2_with (first
                    | (refine wpList_load_row rfl 73 (.tmp 7) rfl wo.heap.size rfl 73 cs (0, 0) _ HG1.out Try.underlying73 rfl hsz ?_)
                    | (refine wpList_store_row rfl 73 (.tmp 5) (.tmp 38) rfl w.heap.size cs rfl rfl 73 _ HM1.out hsz hsm hone ?_))
                  go_roundw
                  case rel => exact ⟨t + 1, by rw [← hhigh.out]; go_num, by rw [HL.out, HX.out], HU2.out, HB2.out⟩
                  case measure => simp [intOf]; omega
          · have H0 := hide (show v = 0 by omega)
            go_wp2
            go_ret
            exact ⟨by rw [← HX.out, hfin.out H0.out, Int.toNat_natCast] <;> rfl, hB⟩
end Go.Proofs.Ytbcdalgfceagcaa
