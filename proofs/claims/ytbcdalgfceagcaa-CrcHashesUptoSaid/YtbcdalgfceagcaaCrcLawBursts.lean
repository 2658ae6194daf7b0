/- CrcBursts: sealed bytes with some bits within 32 turned are refused. -/
import Derived.Test.YtbcdalgfceagcaaCrcBurstPlain
import Derived.Laws.BitsAllLaws
namespace Go.Proofs.Ytbcdalgfceagcaa
open Go.RowKit

/-- a text that is written in place, in one block -/
def WBytes (w : World) (base g cap : Nat) (l : List Nat) : Prop := w.ownsRow base 5 1 (.slice (some ⟨g, 0, none⟩) l.length cap) l.length (rowF (byteV l) l.length)
theorem WBytes.at_ {w : World} {base g cap : Nat} {l : List Nat} (h : WBytes w base g cap l) : BytesAt w (some ⟨g, 0, none⟩) l ∧ l.length ≤ cap ∧ base ≤ g ∧ g < w.heap.size := by
  obtain ⟨ao, c, e, h1, h2, h3, h4⟩ := own_any h
  injection e with e1 e2 e3
  subst e1 e3
  obtain ⟨h5, h6, _⟩ := h4 g 0 rfl
  exact ⟨h3, h1, h5, h6⟩
theorem rowF_set (l : List Nat) (q x : Nat) : (rowF (byteV l) l.length).set q (.int .u8 (x : Nat)) = rowF (byteV (l.set q x)) (l.set q x).length := by
  rw [rowF_bytes, rowF_bytes, List.map_set]
theorem WBytes.set {w : World} {base g cap : Nat} {l : List Nat} (h : WBytes w base g cap l) (q x : Nat) : WBytes (w.setCell ⟨g, q, none⟩ (.int .u8 (x : Nat))) base g cap (l.set q x) := by
  have h' := (World.ownsRow.stored h q (.int .u8 (x : Nat))).1
  unfold WBytes
  rw [← rowF_set, List.length_set]
  exact h'
theorem WBytes.free {w : World} {base g cap : Nat} {l : List Nat} (h : WBytes w base g cap l) (j : Nat) : w.frozen? ⟨g, j, none⟩ = false := World.ownsRow.frozenAt h j
theorem WBytes.cell {w : World} {base g cap : Nat} {l : List Nat} (h : WBytes w base g cap l) (j : Nat) (hj : j < l.length) : w.cell? ⟨g, j, none⟩ = some (.int .u8 (l.getD j 0 : Nat)) := by
  obtain ⟨b, off, e, hc⟩ := h.at_.1 j hj
  injection e with e
  injection e with e1 e2
  subst e1 e2
  rw [Nat.zero_add] at hc
  exact hc
theorem u8xor (a b : Nat) (ha : a < 256) (hb : b < 256) : bits .xor .u8 (a : Int) (b : Int) = ((a ^^^ b : Nat) : Int) := u8_xor_nat a b ha hb

theorem WBytes.drew {w : World} {base g cap : Nat} {l : List Nat} (h : WBytes w base g cap l) : WBytes w.drew base g cap l := h
/-- one bit turned -/
theorem turn_step {w0 w : World} {base g cap D : Nat} {S T : List Nat} {K j b : Nat} (h : WBytes w base g cap T) (hT : ∀ c ∈ T, c < 256) (hq : (K + j) / 8 < T.length) (hb : b < 2 ^ j) (hnum : numL T = numL S ^^^ (2 ^ K * b)) (hB : Below D w0 w) (hD : D ≤ base) :
    ∃ (T2 : List Nat) (b2 : Nat), Hid (T2.length = T.length) ∧ Hid (∀ c ∈ T2, c < 256) ∧ b2 < 2 ^ (j + 1) ∧ Hid ((!decide (b2 = 0)) = true) ∧ Hid (numL T2 = numL S ^^^ (2 ^ K * b2)) ∧
      Hid (WBytes (w.setCell ⟨g, (K + j) / 8, none⟩ (.int .u8 (bits BinOp.xor IntKind.u8 ((T[(K + j) / 8]'hq : Nat) : Int) (2 ^ ((K + j) % 8) % 256)))).drew base g cap T2) ∧
      Hid (Below D w0 (w.setCell ⟨g, (K + j) / 8, none⟩ (.int .u8 (bits BinOp.xor IntKind.u8 ((T[(K + j) / 8]'hq : Nat) : Int) (2 ^ ((K + j) % 8) % 256)))).drew) := by
  have hr : (K + j) % 8 < 8 := Nat.mod_lt _ (by omega)
  have e1 : T.getD ((K + j) / 8) 0 = T[(K + j) / 8] := by simp [List.getD_eq_getElem?_getD, hq]
  have hp : (2 : Nat) ^ ((K + j) % 8) < 2 ^ 8 := Nat.pow_lt_pow_right (by omega) hr
  have hc : T[(K + j) / 8] < 256 := hT _ (List.getElem_mem hq)
  have ex : bits BinOp.xor IntKind.u8 ((T[(K + j) / 8] : Nat) : Int) (2 ^ ((K + j) % 8) % 256) = ((T.getD ((K + j) / 8) 0 ^^^ 2 ^ ((K + j) % 8) : Nat) : Int) := by
    have e2 : ((2 : Int) ^ ((K + j) % 8) % 256) = ((2 ^ ((K + j) % 8) : Nat) : Int) := by
      rw [Int.natCast_pow]
      have : ((2 ^ ((K + j) % 8) : Nat) : Int) < 256 := by omega
      rw [Int.natCast_pow] at this
      have h0 : (0 : Int) ≤ 2 ^ ((K + j) % 8) := Int.pow_nonneg (by omega)
      show (2 : Int) ^ ((K + j) % 8) % 256 = 2 ^ ((K + j) % 8)
      exact Int.emod_eq_of_lt h0 this
    rw [e2, e1]
    exact u8xor _ _ hc (by omega)
  rw [ex]
  refine ⟨T.set ((K + j) / 8) (T.getD ((K + j) / 8) 0 ^^^ 2 ^ ((K + j) % 8)), b ^^^ 2 ^ j, hide (by simp), hide (set_lt T _ _ hT (byte_xor (by rw [e1]; exact hc) hr)), Nat.xor_lt_two_pow (Nat.lt_trans hb (Nat.pow_lt_pow_right (by omega) (by omega))) (Nat.pow_lt_pow_right (by omega) (by omega)), hide ?_, hide ?_, hide ((h.set _ _).drew), hide ?_⟩
  · have : b ^^^ 2 ^ j ≠ 0 := fun e => by
      have e3 := congrArg (fun z => z ^^^ 2 ^ j) e
      simp only [Nat.xor_assoc, Nat.xor_self, Nat.xor_zero, Nat.zero_xor] at e3
      omega
    simp [this]
  · rw [numL_set T _ _ hT hq hr, hnum, mul_xor, Nat.xor_assoc, ← Nat.pow_add, show 8 * ((K + j) / 8) + (K + j) % 8 = K + j by omega]
  · exact belowDrew (hB.setCell (Nat.le_trans hD h.at_.2.2.1) _)

set_option maxHeartbeats 3200000 in
set_option maxRecDepth 100000 in
theorem bursts_walk (a : Option Addr) (c : Nat) (l : List Nat) (at0 : Int) (bs : Nat) (hbs : bs < 4294967296) (w : World) (hm : l.length ≤ 9223372036854775807) (hl : ∀ c ∈ l, c < 256) (hb : BytesAt w a l) :
    Calls Try.prog 3 #[.slice a l.length c, .int .i64 at0, .int .u32 bs] w fun e w' => e = .returned (.bool true) ∧ Below w.heap.size w w' := by
  by_cases hbig : 20000 < l.length
  · have d1 : decide ((20000 : Int) < (l.length : Int)) = true := decide_eq_true (by omega)
    have d1' : decide (20000 < l.length) = true := decide_eq_true hbig
    clear hbig hb hl
    generalize l.length = n at *
    go_enter Try.func3, Try.ntmps3
    go_wp2_with fail
    refine (works_ok _).mono ?_
    rintro e w' ⟨rfl, hB⟩
    go_wp2
    go_ret
    exact ⟨rfl, hB⟩
  · have d1 : decide ((20000 : Int) < (l.length : Int)) = false := decide_eq_false (by omega)
    have d1' : decide (20000 < l.length) = false := decide_eq_false hbig
    by_cases hz : bs = 0
    · subst hz
      clear hbig hb hl
      generalize l.length = n at *
      go_enter Try.func3, Try.ntmps3
      go_wp2_with fail
      refine (works_ok _).mono ?_
      rintro e w' ⟨rfl, hB⟩
      go_wp2
      go_ret
      exact ⟨rfl, hB⟩
    · have HS := hide (Seal_ok a c l w (by omega) hl hb)
      have hSL := sealL_length l
      have HLL := hide hl
      have hSlt := sealL_lt l hl
      have hbn : l.length ≤ 20000 := by omega
      have dz : decide (bs = 0) = false := decide_eq_false hz
      clear hb hl hbig hm
      generalize hn : l.length = n at *
      have HN := hide hn
      clear hn
      generalize hS : sealL l = S at *
      have HSE := hide hS
      have HSL := hide hSL
      have HSLT := hide hSlt
      clear hS hSL hSlt
      obtain ⟨i0, hi, hz0, hz1, hz2⟩ := info_parts Try.info5
      have hne : ((n : Int) + 4 != (n : Int) + 4) = false := by simp
      go_enter Try.func3, Try.ntmps3
      go_wp2_with fail
      refine HS.out.mono ?_
      rintro e w1 ⟨v, rfl, hv, hB1⟩
      obtain ⟨ao, cap, rfl, hcap, hnone, hbv, hao⟩ := hv.any
      unfold OwnBytes at hv
      rw [HSL.out] at hv hcap hnone ⊢
      obtain ⟨g0, off, rfl, _⟩ := hbv 0 (by rw [HSL.out]; omega)
      have hrow0 : (w1.alloc (.cells #[] 5)).ownsRow w1.heap.size 5 1 (.slice (some ⟨w1.heap.size, 0, none⟩) 0 0) 0 [] := ⟨rfl, .inr ⟨w1.heap.size, 0, #[], rfl, Nat.le_refl _, heap_alloc_new w1 _, by omega, by unfold maxLen; omega, rfl, rfl⟩⟩
      have hB1a := (Below.refl w1.heap.size w1).alloc (Nat.le_refl _) (.cells #[] 5)
      have hsrc := (CellsAt.below (show CellsAt w1 (some ⟨g0, off, none⟩) S.length (byteV S) from hbv) hB1a (Nat.le_refl _)).src
      rw [HSL.out] at hsrc
      have HROW0 := hide hrow0
      have HSRC := hide hsrc
      have HB1 := hide hB1
      clear hrow0 hB1a hsrc hB1 hv hbv hao hnone
      have hm8 : IntKind.i64.wrap (8 * ((n : Int) + 4)) = 8 * ((n : Int) + 4) := by rw [IntKind.wrap_i64]; omega
      have hq0 : (8 * ((n : Int) + 4) == 0) = false := by rw [beq_eq_false_iff_ne]; omega
      have hq1 : ¬ (8 * ((n : Int) + 4) = 0) := by omega
      obtain ⟨J, hJ1, hJ2⟩ : ∃ J : Nat, wrap64 (at0.tmod (8 * ((n : Int) + 4)) + 8 * ((n : Int) + 4)) = (J : Int) ∧ J < 16 * (n + 4) := by
        have t1 := Int.tmod_lt_of_pos at0 (show 0 < 8 * ((n : Int) + 4) by omega)
        have t2 := Int.lt_tmod_of_pos at0 (show 0 < 8 * ((n : Int) + 4) by omega)
        refine ⟨(at0.tmod (8 * ((n : Int) + 4)) + 8 * ((n : Int) + 4)).toNat, ?_, by omega⟩
        unfold wrap64
        omega
      obtain ⟨K, hK1, hK2⟩ : ∃ K : Nat, (J : Int).tmod (8 * ((n : Int) + 4)) = (K : Int) ∧ K < 8 * (n + 4) := by
        refine ⟨J % (8 * (n + 4)), ?_, Nat.mod_lt _ (by omega)⟩
        rw [Int.tmod_eq_emod_of_nonneg (by omega)]
        push_cast
        rfl
      go_wp2_with (at_builtin; refine wpList_append_own _ rfl (.tmp 30) (.tmp 31) 22 rfl w1.heap.size 5 i0 (.int .u8 0) 1 1 Try.underlying22 hi hz0 hz1 hz2 rfl (by decide) (.slice (some ⟨w1.heap.size, 0, none⟩) 0 0) 0 [] rfl HROW0.out ⟨g0, off, none⟩ (n + 4) cap (rowF (byteV S) (n + 4)) rfl (by simp) (HSRC.out _ rfl) (rowF_one _ _ (byteV_one _)) (by unfold maxLen; omega) (by omega) (by simp) ?_; intro v4 w4 hown4 hgrow4 hnil4; rw [Nat.zero_add, List.nil_append] at hown4; obtain ⟨g, cp, rfl, hg1, hg2, hcp, _⟩ := own_row hown4 (by omega); have HWB : Hid (WBytes w4 w1.heap.size g cp S) := hide (by unfold WBytes; rw [HSL.out]; exact hown4); have HB4 : Hid (Below w.heap.size w w4) := hide ((HB1.out.alloc HB1.out.size (.cells #[] 5)).trans (below_own (Below.refl _ _) HROW0.out (Nat.le_refl _) (by simp) hgrow4 |>.mono (by have := HB1.out.size; simp; omega))); clear hown4 hgrow4 hnil4 HROW0 HSRC)
      clear hJ1 hK1 hm8 hq0 hq1
      go_loopw [10, 11] (fun q i wr => ∃ (j b : Nat) (T : List Nat), j ≤ 32 ∧ i = .int .i64 j ∧ q = .bool (!decide (b = 0)) ∧ b < 2 ^ j ∧ Hid (T.length = n + 4) ∧ Hid (∀ c ∈ T, c < 256) ∧ Hid (numL T = numL S ^^^ (2 ^ K * b)) ∧ Hid (WBytes wr w1.heap.size g cp T) ∧ Hid (Below w.heap.size w wr)) (fun _ i _ => 32 - (intOf i).toNat)
      case atStart => exact ⟨0, 0, S, by omega, rfl, rfl, by decide, HSL, HSLT, hide (by simp), HWB, HB4⟩
      case round =>
        obtain ⟨j, b, T, hj, rfl, rfl, hb, HT, HTL, HNUM, HWB, HBR⟩ := hrel
        by_cases hlt : j < 32
        · go_wp2
          · have hq : (K + j) / 8 < n + 4 := by omega
            have e5 : ((K : Int) + (j : Int)) / 8 < (n : Int) + 4 := by omega
            have hqT : (K + j) / 8 < T.length := by rw [HT.out]; omega
            have hcell := HWB.out.cell ((K + j) / 8) hqT
            have hfree := HWB.out.free ((K + j) / 8)
            have hcelld : wr.drew.cell? ⟨g, (K + j) / 8, none⟩ = _ := hcell
            have hfreed : wr.drew.frozen? ⟨g, (K + j) / 8, none⟩ = false := hfree
            clear hcell hfree
            obtain ⟨T2, b2, HT2, HTL2, hb2, HD2, HNUM2, HWB2, HBR2⟩ := turn_step HWB.out HTL.out hqT hb HNUM.out HBR.out HB1.out.size
            go_big_region
            go_wp2
            go_roundw
            case rel => exact ⟨j + 1, b2, T2, by omega, by go_num, by rw [HD2.out], hb2, hide (HT2.out.trans HT.out), HTL2, HNUM2, HWB2, HBR2⟩
            case measure => simp [intOf]; omega
          · go_roundw
            case rel => exact ⟨j + 1, b, T, by omega, by go_num, rfl, Nat.lt_trans hb (Nat.pow_lt_pow_right (by omega) (by omega)), HT, HTL, HNUM, HWB, HBR⟩
            case measure => simp [intOf]; omega
          · go_roundw
            case rel => exact ⟨j + 1, b, T, by omega, by go_num, rfl, Nat.lt_trans hb (Nat.pow_lt_pow_right (by omega) (by omega)), HT, HTL, HNUM, HWB, HBR⟩
            case measure => simp [intOf]; omega
        · obtain rfl : j = 32 := by omega
          by_cases hb0 : b = 0
          · have hdb : (!decide (b = 0)) = false := by simp [hb0]
            go_wp2_with fail
            refine (works_ok _).mono ?_
            rintro e w' ⟨rfl, hB⟩
            go_wp2
            go_ret
            exact ⟨rfl, HBR.out.trans (hB.mono HBR.out.size)⟩
          · have hdb : (!decide (b = 0)) = true := by simp [hb0]
            have hbad := burst_law l T K b HLL.out HTL.out (by rw [HT.out, HN.out]) (by rw [HT.out]; omega) hb hb0 (by rw [HSE.out]; exact HNUM.out)
            rw [HN.out] at hbad
            have HOP := hide (Open_four g 0 cp n T wr HT.out (by omega) (by rw [HT.out]; exact hcp) HTL.out (HWB.out.at_).1)
            have HBAD := hide hbad
            clear hbad
            go_wp2_with fail
            refine HOP.out.mono ?_
            rintro e w5 ⟨_, h121, hB5⟩
            obtain rfl := h121 HBAD.out
            have HB5 := hide (HBR.out.trans (hB5.mono HBR.out.size))
            clear hB5 h121
            go_wp2_with fail
            refine (num_ok 121 _).mono ?_
            rintro e w' ⟨rfl, rfl⟩
            go_wp2_with fail
            refine (works_ok _).mono ?_
            rintro e w' ⟨rfl, hB⟩
            go_wp2
            go_ret
            exact ⟨rfl, HB5.out.trans (hB.mono HB5.out.size)⟩
end Go.Proofs.Ytbcdalgfceagcaa
