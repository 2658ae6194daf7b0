/- CrcSums: the sum of any texts, of any number gone on with, and the table. -/
import Derived.Test.YtbcdalgfceagcaaCrcTable
import Derived.Test.YtbcdalgfceagcaaCrcLawBursts
namespace Go.Proofs.Ytbcdalgfceagcaa
open Go.RowKit

theorem t8_get (k : Nat) (h : k < 256) : (rowF t8 256).toArray[k]? = some (.int .u32 (stpN 8 k : Nat)) := by
  rw [List.getElem?_toArray, rowF_get _ _ _ h, show (8 : Nat) = 4 + 4 by rfl, stpN_add]
  rfl
/-- the table in memory -/
def TabAt (w : World) (g : Nat) : Prop := w.heap[g]? = some (.cells (rowF t8 256).toArray 45 (0, 0))
theorem TabAt.cell {w : World} {g : Nat} (h : TabAt w g) (k : Nat) (hk : k < 256) : w.cell? ⟨g, k, none⟩ = some (.int .u32 (stpN 8 k : Nat)) := by
  rw [cell_of_row w g k _ _ _ h]
  exact t8_get k hk
theorem bytes_src {w w0 : World} {a : Option Addr} {l : List Nat} (h : BytesAt w0 a l) (hB : Below w0.heap.size w0 w) : ∀ ad, a = some ad → ∀ j u, (rowF (byteV l) l.length)[j]? = some u → w.cell? (ad.add j) = some u :=
  CellsAt.src (h.below hB (Nat.le_refl _))
theorem bytes_one (w : World) (x : Nat) : ∀ j u, [Value.int .u8 (x : Nat)][j]? = some u → (w.alloc (.cells #[.int .u8 (x : Nat)] 5)).cell? ((⟨w.heap.size, 0, none⟩ : Addr).add j) = some u :=
  cell_one_new w (.int .u8 (x : Nat)) 5

set_option maxHeartbeats 3200000 in
set_option maxRecDepth 100000 in
theorem sums_walk (a : Option Addr) (n c : Nat) (A : Nat → Option Addr) (C : Nat → Nat) (l : Nat → List Nat) (s1 : Nat) (hs1 : s1 < 4294967296) (w : World) (hn : n ≤ 9223372036854775807) (h : PartsAt w a n A C l) (hnil : ∀ i, i < n → A i = none → (l i).length = 0 ∧ C i = 0) :
    Calls Try.prog 7 #[.slice a n c, .int .u32 s1] w fun e w' => e = .returned (.bool true) ∧ Below w.heap.size w w' := by
  have HLO := hide (long_ok a n c A C l w hn h)
  have HTO := hide (fun h1 h2 => together_ok a n c A C l w h1 h hnil h2)
  have HSU := hide (fun (w' : World) (hB : Below w.heap.size w w') => Sum_ok a n c A C l w' hn (h.below hB (Nat.le_refl _)))
  have HJL := hide (joinL_lt (fun i hi => (h.small i hi).2) n (Nat.le_refl n))
  obtain ⟨i0, hi, hz0, hz1, hz2⟩ := info_parts Try.info5
  clear h hnil hn
  generalize joinL l n = J at *
  go_enter Try.func7, Try.ntmps7
  go_wp2_with fail
  refine HLO.out.mono ?_
  rintro e w' ⟨rfl | ⟨rfl, hn100, hJ⟩, rfl⟩
  · clear HLO HTO HSU HJL
    go_wp2_with fail
    refine (works_ok _).mono ?_
    rintro e w' ⟨rfl, hB⟩
    go_wp2
    go_ret
    exact ⟨rfl, hB⟩
  · have HT := hide (HTO.out hn100 hJ)
    clear HLO HTO
    have hJ' := hJ
    generalize hL : J.length = L at hJ'
    have HL := hide hL
    clear hL hJ
    go_wp2_with fail
    refine HT.out.mono ?_
    rintro e w1 ⟨v1, rfl, hv1, hB⟩
    obtain ⟨ao, cp, rfl, hcp, hao0, hbv, _⟩ := hv1.any
    rw [HL.out] at hcp hao0 ⊢
    have HB1 := hide hB
    have BB := hide hbv
    have hsrc := bytes_src hbv ((Below.refl w1.heap.size w1).alloc (Nat.le_refl _) (.cells #[] 5))
    rw [HL.out] at hsrc
    have HSRC := hide hsrc
    have hrow0 : (w1.alloc (.cells #[] 5)).ownsRow w1.heap.size 5 1 (.slice (some ⟨w1.heap.size, 0, none⟩) 0 0) 0 [] := ⟨rfl, .inr ⟨w1.heap.size, 0, #[], rfl, Nat.le_refl _, heap_alloc_new w1 _, by omega, by unfold maxLen; omega, rfl, rfl⟩⟩
    have HROW0 := hide hrow0
    have HBW1 := hide ((Below.refl w1.heap.size w1).alloc (Nat.le_refl _) (.cells #[] 5))
    have HNEW : Hid (rowF (byteV J) L ++ [.int .u8 165] = rowF (byteV (J ++ [165])) (L + 1)) := hide (by
      have e := rowF_append J [165]
      rw [HL.out] at e
      exact e.symm)
    clear hv1 hB hbv hsrc hrow0 HT
    go_wp2_with (first
      | (at_builtin; refine wpList_append_src rfl (.tmp 14) (.tmp 15) 22 rfl w1.heap.size 5 i0 (.int .u8 0) 1 1 Try.underlying22 hi hz0 hz1 hz2 rfl (by decide) (.slice (some ⟨w1.heap.size, 0, none⟩) 0 0) 0 [] rfl HROW0.out ao L cp (rowF (byteV J) L) rfl (by simp) hao0 HSRC.out (rowF_one _ _ (byteV_one _)) (by unfold maxLen; omega) (by omega) (by simp) ?_; intro v2 w2 hown2 hgrow2; rw [Nat.zero_add, List.nil_append] at hown2; have HO2 := hide hown2; have HB2 := hide (below_own HBW1.out HROW0.out (Nat.le_refl _) (by simp) hgrow2); have HO2a := hide (hown2.alloc (.cells #[.int .u8 165] 5)); have HB2a := hide (HB2.out.alloc HB2.out.size (.cells #[.int .u8 165] 5)); clear hown2 hgrow2)
      | (at_builtin; refine wpList_append_own _ rfl (.tmp 16) (.tmp 17) 22 rfl w1.heap.size 5 i0 (.int .u8 0) 1 1 Try.underlying22 hi hz0 hz1 hz2 rfl (by decide) _ L (rowF (byteV J) L) rfl HO2a.out ⟨w2.heap.size, 0, none⟩ 1 1 [.int .u8 165] rfl (by simp) (bytes_one w2 165) (by intro u hu; simp at hu; subst hu; rfl) (by unfold maxLen; omega) (by omega) HB2a.out.size ?_; intro v3 w3 hown3 hgrow3 _; rw [HNEW.out] at hown3; obtain ⟨g, cq, rfl, hg1, hg2, hcq, hcells⟩ := own_row hown3 (by omega); have HB3 := hide (below_own HB2a.out HO2a.out (Nat.le_refl _) HB2a.out.size hgrow3); have HC3 := hide hcells; clear hown3 hgrow3 hcells))
    have BM3 : Hid (BytesAt w3 (some ⟨g, 0, none⟩) J) := hide (by
      have h1 : BytesAt w3 (some ⟨g, 0, none⟩) (J ++ [165]) := by unfold BytesAt; rw [List.length_append, HL.out]; exact HC3.out
      have h2 := h1.take J.length (by simp)
      rwa [List.take_left' rfl] at h2)
    have BB3 : Hid (BytesAt w3 ao J) := hide (BB.out.below HB3.out (Nat.le_refl _))
    have C165 : Hid (w3.cell? ⟨g, L, none⟩ = some (.int .u8 165)) := hide (by
      obtain ⟨b', o', e, hc⟩ := HC3.out L (by omega)
      injection e with e
      injection e with e1 e2
      subst e1 e2
      rw [Nat.zero_add] at hc
      rw [hc]
      unfold byteV
      rw [List.getD_eq_getElem?_getD, List.getElem?_append_right (by rw [HL.out]; exact Nat.le_refl _), HL.out, Nat.sub_self]
      rfl)
    have HA3 := hide (HB1.out.trans (HB3.out.mono HB1.out.size))
    have KS := hide (fun (w' : World) (hB : Below w3.heap.size w3 w') => sum_one (some ⟨g, 0, none⟩) cq J w' (by rw [HL.out]; omega) HJL.out (BM3.out.below hB (Nat.le_refl _)))
    have KR := hide (fun (w' : World) (hB : Below w3.heap.size w3 w') => refSum_ok ao cp J w' (by rw [HL.out]; omega) HJL.out (BB3.out.below hB (Nat.le_refl _)))
    have KM := hide (fun (w' : World) (hB : Below w3.heap.size w3 w') => More_ok s1 hs1 (some ⟨g, 0, none⟩) cq J w' (by rw [HL.out]; omega) HJL.out (BM3.out.below hB (Nat.le_refl _)))
    have KN := hide (fun (w' : World) (hB : Below w3.heap.size w3 w') => refMore_ok s1 hs1 ao cp J w' (by rw [HL.out]; omega) HJL.out (BB3.out.below hB (Nat.le_refl _)))
    have KV1 := hide (fun (w' : World) (hB : Below w3.heap.size w3 w') => conv_ok (BM3.out.below hB (Nat.le_refl _)) cq)
    have KV2 := hide (fun (w' : World) (hB : Below w3.heap.size w3 w') => conv_ok (BB3.out.below hB (Nat.le_refl _)) cp)
    have KT := hide (HSU.out w3 HA3.out)
    rw [HL.out] at KS KR KM KN KV1 KV2
    have hq1 : (!((strL J).toList == (strL J).toList)) = false := by simp
    have hq2 : ((strL J).toList == (strL J).toList) = true := by simp
    have hss : (((sumL J : Nat) : Int) != ((sumL J : Nat) : Int)) = false := by simp
    have hmm : (((moreL s1 J : Nat) : Int) != ((moreL s1 J : Nat) : Int)) = false := by simp
    generalize sumL J = s at *
    generalize moreL s1 J = x at *
    generalize strL J = st at *
    have hl1 : (L : Int) + 1 ≤ (cq : Int) := by omega
    have hl2 : IntKind.i64.wrap ((L : Int) + 1) = (L : Int) + 1 := by rw [IntKind.wrap_i64]; omega
    clear HSU HJL HB1 HB2 HB2a HO2 HO2a HNEW HSRC HROW0 HBW1 BB HC3
    refine KT.out.mono ?_
    rintro e w4 ⟨rfl, hB⟩
    have HB4 := hide hB
    clear hB
    go_wp2_with fail
    refine (KR.out w4 HB4.out).mono ?_
    rintro e w' ⟨rfl, rfl⟩
    go_wp2_with fail
    refine (KS.out w4 HB4.out).mono ?_
    rintro e w5 ⟨rfl, hB⟩
    have HB5 := hide (HB4.out.trans (hB.mono HB4.out.size))
    clear hB
    go_wp2_with fail
    refine (KR.out w5 HB5.out).mono ?_
    rintro e w' ⟨rfl, rfl⟩
    go_wp2_with fail
    refine (KM.out w5 HB5.out).mono ?_
    rintro e w6 ⟨rfl, hB⟩
    have HB6 := hide (HB5.out.trans (hB.mono HB5.out.size))
    clear hB
    have hv1 := KV1.out w6 HB6.out
    have hv2 := KV2.out w6 HB6.out
    have hc165 := (HB6.out.cell (p := ⟨g, L, none⟩) hg2).trans C165.out
    go_wp2_with fail
    refine (KN.out w6 HB6.out).mono ?_
    rintro e w' ⟨rfl, rfl⟩
    go_wp2_with fail
    clear hv1 hv2 hc165
    have hsz8 : (Try.prog.info? 45).map (·.size) = some (rowF t8 256).toArray.size := by
      rw [List.size_toArray, rowF_length]; kernel_rfl
    have hone8 : (rowF t8 256).toArray.all (·.oneCell') = true := by
      simp only [List.all_toArray, List.all_eq_true]
      exact rowF_one _ _ (fun _ => rfl)
    have HS8 := hide hsz8
    have HO8 := hide hone8
    have hal := zero45
    have HZS : Hid (Z256.size = (rowF t8 256).toArray.size) := hide (by simp [Z256])
    have HTC := hide (fun (w : World) (g : Nat) (h : TabAt w g) => h.cell)
    unfold TabAt at HTC
    have HTB := hide (Table_ok w6)
    clear hsz8 hone8
    generalize (rowF t8 256).toArray = T at *
    generalize Z256 = Z at *
    refine HTB.out.mono ?_
    rintro e w7 ⟨rfl, hB⟩
    have HB7 := hide (HA3.out.trans ((HB6.out.trans (hB.mono HB6.out.size)).mono HA3.out.size))
    clear hB
    have HNW := hide (heap_alloc_new w7 (.cells Z 45))
    have HBZ := hide (below_setRow' (HB7.out.alloc HB7.out.size (.cells Z 45)) HB7.out.size T)
    have HTT := hide (setRow_heap _ w7.heap.size _ T _ _ HNW.out)
    go_wp2_with (refine wpList_store_row rfl 45 (.tmp 7) (.tmp 63) rfl w7.heap.size T rfl rfl 45 _ HNW.out HS8.out HZS.out HO8.out ?_)
    clear hal HNW
    generalize (w7.alloc (.cells Z 45)).setRow w7.heap.size T = w8 at *
    generalize w7.heap.size = gT at *
    go_loopw [8] (fun i wr => ∃ k : Nat, k ≤ 256 ∧ i = .int .i64 k ∧ Hid (wr.heap[gT]? = some (.cells T 45 (0, 0))) ∧ Hid (Below w.heap.size w wr)) (fun i _ => 256 - (intOf i).toNat)
    case atStart => exact ⟨0, by omega, rfl, HTT, HBZ⟩
    case round =>
      obtain ⟨k, hk, rfl, HR, HB⟩ := hrel
      by_cases hlt : k < 256
      · have hc := HTC.out wr gT HR.out k hlt
        have hcv : IntKind.u32.wrap (k : Int) = (k : Int) := by rw [IntKind.wrap_u32']; omega
        have hE := Eight_ok k (by omega)
        generalize stpN 8 k = y at *
        have HE := hide hE
        have hyy : ((y : Int) != (y : Int)) = false := by simp
        have hcd : wr.drew.cell? ⟨gT, k, none⟩ = some (.int .u32 (y : Nat)) := hc
        clear hE hc
        go_wp2_with fail
        go_region_with (go_at_call 25; with_reducible refine (HE.out _).mono ?_; rintro e w' ⟨rfl, rfl⟩)
        all_goals (
          go_wp2
          go_roundw
          case rel => exact ⟨k + 1, by omega, by go_num, hide HR.out, hide (belowDrew HB.out)⟩
          case measure => simp [intOf] <;> omega)
      · obtain rfl : k = 256 := by omega
        go_wp2_with fail
        refine (works_ok _).mono ?_
        rintro e w9 ⟨rfl, hB⟩
        go_wp2
        go_ret
        exact ⟨rfl, HB.out.trans (hB.mono HB.out.size)⟩
end Go.Proofs.Ytbcdalgfceagcaa
