/- KeepTells: what goes, why, when more do, are the reference's; the pieces stay. (Written by wip/gentells.py.) -/
import Derived.Test.YtjgdegkjkedfcaaKeepTells1
namespace Go.Proofs.Ytjgdegkjkedfcaa
open Go.RowKit

set_option maxHeartbeats 6400000 in
set_option maxRecDepth 100000 in
theorem tells_big (r : R4) (now later at0 : Int) (a : Option Addr) (c : Nat) (l : List P3) (w : World) (h : 60 < l.length) :
    Calls Try.prog 6 #[.agg (caseV r now later at0 a l.length c)] w fun e w' => e = .returned (.bool true) ∧ Below w.heap.size w w' := by
  have HC0 := hide (case_new w (caseV r now later at0 a l.length c) r)
  have d1 : decide ((60 : Int) < (l.length : Int)) = true := decide_eq_true (by omega)
  have d1' : decide (60 < l.length) = true := decide_eq_true h
  clear h
  obtain ⟨ry, ra, rp, rw'⟩ := r
  unfold caseV ruleV at *
  generalize l.length = n at *
  go_enter Try.func6, Try.ntmps6
  go_wp2_with fail
  go_big_region
  go_wp2_with fail
  refine (works_ok _).mono ?_
  rintro e w9 ⟨rfl, hB⟩
  go_wp2
  go_ret
  exact ⟨rfl, HC0.out.1.trans (hB.mono HC0.out.1.size)⟩

/-- all that the walk of KeepTells leans on -/
structure TC (ry ra rp rw' now at0 : Int) (a : Option Addr) (c n : Nat) (l : List P3) (w : World) (E0 BX NG ME WN WE T : Int) (B : Bool) (CE : Int) (cb nb : Bool) (PL : List Value) : Prop where
  len : l.length = n
  pcs : PcsAt w a l
  nil : a = none → n = 0 ∧ c = 0
  go : ∀ (a' : Option Addr) (c' : Nat) (w' : World), PcsAt w' a' l → Calls Try.prog 7 #[.agg #[.int .i64 ry, .int .i64 ra, .int .i64 rp, .int .i64 rw'], .int .i64 now, .slice a' n c'] w' fun e w'' => e = .returned (.tuple #[.int .i64 NG, .int .i64 ME]) ∧ Below w'.heap.size w' w''
  wh : ∀ (a' : Option Addr) (c' : Nat) (w' : World), PcsAt w' a' l → Calls Try.prog 13 #[.agg #[.int .i64 ry, .int .i64 ra, .int .i64 rp, .int .i64 rw'], .int .i64 now, .int .i64 at0, .slice a' n c'] w' fun e w'' => e = .returned (.tuple #[.int .i64 WN, .int .i64 WE]) ∧ Below w'.heap.size w' w''
  nx : ∀ (a' : Option Addr) (c' : Nat) (w' : World), PcsAt w' a' l → Calls Try.prog 14 #[.agg #[.int .i64 ry, .int .i64 ra, .int .i64 rp, .int .i64 rw'], .int .i64 now, .slice a' n c'] w' fun e w'' => e = .returned (.tuple #[.int .i64 T, .bool B, .int .i64 ME]) ∧ Below w'.heap.size w' w''
  by_ : ∀ (a' : Option Addr) (c' : Nat) (w' : World), PcsAt w' a' l → Calls Try.prog 15 #[.slice a' n c'] w' fun e w'' => e = .returned (.tuple #[.int .i64 BX, .int .i64 E0]) ∧ Below w'.heap.size w' w''
  or_ : ∀ (a' : Option Addr) (c' : Nat) (w' : World), PcsAt w' a' l → Calls Try.prog 9 #[.slice a' n c'] w' fun e w'' => e = .returned (.int .i64 E0) ∧ Below w'.heap.size w' w''
  ro : ∀ (w' : World), Below w.heap.size w w' → Calls Try.prog 17 #[.slice a n c] w' fun e w'' => e = .returned (.int .i64 E0) ∧ Below w'.heap.size w' w''
  ck : ∀ (w' : World), Calls Try.prog 11 #[.agg #[.int .i64 ry, .int .i64 ra, .int .i64 rp, .int .i64 rw']] w' fun e w'' => e = .returned (.int .i64 CE) ∧ Below w'.heap.size w' w''
  rc : ∀ (w' : World), Calls Try.prog 16 #[.agg #[.int .i64 ry, .int .i64 ra, .int .i64 rp, .int .i64 rw']] w' fun e w'' => e = .returned (.int .i64 CE) ∧ Below w'.heap.size w' w''
  nw : ∀ (w' : World), Calls Try.prog 12 #[.int .i64 now] w' fun e w'' => e = .returned (.bool nb) ∧ w' = w''
  rb : E0 = 0 → ∀ (w' : World), Below w.heap.size w w' → Calls Try.prog 18 #[.slice a n c] w' fun e w'' => e = .returned (.int .i64 BX) ∧ w' = w''
  rn : ME = 0 → ∀ (w' : World), Below w.heap.size w w' → Calls Try.prog 19 #[.agg #[.int .i64 ry, .int .i64 ra, .int .i64 rp, .int .i64 rw'], .int .i64 now, .slice a n c] w' fun e w'' => e = .returned (.tuple #[.int .i64 T, .bool B]) ∧ Below w'.heap.size w' w''
  rg : ME = 0 → ∀ (w' : World), Below w.heap.size w w' → Calls Try.prog 20 #[.agg #[.int .i64 ry, .int .i64 ra, .int .i64 rp, .int .i64 rw'], .int .i64 now, .slice a n c] w' fun e w'' => e = .returned (.int .i64 NG) ∧ Below w'.heap.size w' w''
  rwh : ME = 0 → 0 ≤ at0 → at0 < (n : Int) → ∀ (w' : World), Below w.heap.size w w' → Calls Try.prog 21 #[.agg #[.int .i64 ry, .int .i64 ra, .int .i64 rp, .int .i64 rw'], .int .i64 now, .slice a n c, .int .i64 at0] w' fun e w'' => e = .returned (.int .i64 WN) ∧ Below w'.heap.size w' w''
  e02 : E0 = 0 ∨ E0 = 2
  m0 : cb = true → nb = true → E0 = 0 → ME = 0
  m2 : cb = false ∨ nb = false ∨ E0 = 2 → ME = 2
  bad : ME = 2 → NG = 0 ∧ WN = 0 ∧ WE = 2 ∧ T = 0 ∧ B = false
  out : ME = 0 → at0 < 0 ∨ (n : Int) ≤ at0 → WN = 0 ∧ WE = 2
  in_ : ME = 0 → 0 ≤ at0 → at0 < (n : Int) → WE = 0
  xz : E0 = 2 → BX = 0
  ce : CE = if cb = true then 0 else 2
  plen : PL.length = n * 3
  pone : ∀ u ∈ PL, u.oneCell' = true
  psrc : ∀ (w' : World), Below w.heap.size w w' → ∀ ad, a = some ad → ∀ j u, PL[j]? = some u → w'.cell? (ad.add j) = some u
  pown : ∀ (w' : World) (B : Nat) (v : Value), w'.ownsRow B 24 3 v (n + 1) (PL ++ [.int .i64 77, .int .i64 0, .int .i64 0]) → ∃ g cap, v = .slice (some ⟨g, 0, none⟩) (n + 1) cap ∧ B ≤ g ∧ g < w'.heap.size ∧ n + 1 ≤ cap ∧ PcsAt w' (some ⟨g, 0, none⟩) l ∧ w'.cell? ⟨g, n * 3, none⟩ = some (.int .i64 77)
theorem case_new4 (w : World) (ry ra rp rw' now later at0 : Int) (a : Option Addr) (n c : Nat) : RSt w ((w.alloc (.cells #[.int .i64 ry, .int .i64 ra, .int .i64 rp, .int .i64 rw', .int .i64 now, .int .i64 later, .int .i64 at0, .slice a n c] 34)).alloc (.cells #[.int .i64 ry, .int .i64 ra, .int .i64 rp, .int .i64 rw'] 29)).drew (w.heap.size + 1) ⟨ry, ra, rp, rw'⟩ := by
  have h := case_new w (caseV ⟨ry, ra, rp, rw'⟩ now later at0 a n c) ⟨ry, ra, rp, rw'⟩
  exact ⟨h.2, h.1⟩

set_option maxHeartbeats 6400000 in
set_option maxRecDepth 100000 in
theorem tells_core (ry ra rp rw' now later at0 : Int) (a : Option Addr) (c n : Nat) (l : List P3) (w : World) (E0 BX NG ME WN WE T : Int) (B : Bool) (CE : Int) (cb nb : Bool) (PL : List Value) (HC : TC ry ra rp rw' now at0 a c n l w E0 BX NG ME WN WE T B CE cb nb PL) (h60 : n ≤ 60) :
    Calls Try.prog 6 #[.agg #[.int .i64 ry, .int .i64 ra, .int .i64 rp, .int .i64 rw', .int .i64 now, .int .i64 later, .int .i64 at0, .slice a n c]] w fun e w' => e = .returned (.bool true) ∧ Below w.heap.size w w' := by
  obtain ⟨i0, hi, hz0, hz1, hz2⟩ := info_pcs
  have d1 : decide ((60 : Int) < (n : Int)) = false := decide_eq_false (by omega)
  have d1' : decide (60 < n) = false := decide_eq_false (by omega)
  go_enter Try.func6, Try.ntmps6
  go_wp2_with fail
  go_big_region
  obtain ⟨w0, hw0⟩ : ∃ w0, w0 = ((w.alloc (.cells #[.int .i64 ry, .int .i64 ra, .int .i64 rp, .int .i64 rw', .int .i64 now, .int .i64 later, .int .i64 at0, .slice a n c] 34)).alloc (.cells #[.int .i64 ry, .int .i64 ra, .int .i64 rp, .int .i64 rw'] 29)).drew := ⟨_, rfl⟩
  have HX0 : Hid (RSt w w0 (w.heap.size + 1) ⟨ry, ra, rp, rw'⟩) := hide (by rw [hw0]; exact case_new4 w ry ra rp rw' now later at0 a n c)
  rw [← hw0]
  clear hw0
  have hrow0 : (w0.alloc (.cells #[] 24)).ownsRow w0.heap.size 24 3 (.slice (some ⟨w0.heap.size, 0, none⟩) 0 0) 0 [] := ⟨rfl, .inr ⟨w0.heap.size, 0, #[], rfl, Nat.le_refl _, heap_alloc_new w0 _, by omega, by unfold maxLen; omega, rfl, rfl⟩⟩
  have HROW0 := hide hrow0
  have HBW1 := hide ((Below.refl w0.heap.size w0).alloc (Nat.le_refl _) (.cells #[] 24))
  have HSRC := hide (HC.psrc _ (HX0.out.bel.trans (HBW1.out.mono HX0.out.bel.size)))
  have hnl := HC.nil
  clear hrow0
  go_wp2_with (first
    | (at_builtin; refine wpList_append_src rfl (.tmp 32) (.tmp 33) 22 rfl w0.heap.size 24 i0 (.agg #[.int .i64 0, .int .i64 0, .int .i64 0]) 3 24 Try.underlying22 hi hz0 hz1 hz2 rfl (by decide) (.slice (some ⟨w0.heap.size, 0, none⟩) 0 0) 0 [] rfl HROW0.out a n c PL rfl (by rw [HC.plen]) hnl HSRC.out HC.pone (by unfold maxLen; omega) (by omega) (by simp) ?_; intro v2 w2 hown2 hgrow2; rw [Nat.zero_add, List.nil_append] at hown2; have HO2 := hide hown2; have HB2 := hide (below_own3 HBW1.out HROW0.out (Nat.le_refl _) (by simp) hgrow2); have HO2a := hide (hown2.alloc (.cells #[.int .i64 77, .int .i64 0, .int .i64 0] 24)); have HB2a := hide (HB2.out.alloc HB2.out.size (.cells #[.int .i64 77, .int .i64 0, .int .i64 0] 24)); have HG2 := hide hgrow2; clear hown2 hgrow2)
    | (at_builtin; refine wpList_append_own _ rfl (.tmp 34) (.tmp 36) 22 rfl w0.heap.size 24 i0 (.agg #[.int .i64 0, .int .i64 0, .int .i64 0]) 3 24 Try.underlying22 hi hz0 hz1 hz2 rfl (by decide) _ n PL rfl HO2a.out ⟨w2.heap.size, 0, none⟩ 1 1 [.int .i64 77, .int .i64 0, .int .i64 0] rfl (by simp) (pcs_one_src w2) (by intro u hu; simp at hu; rcases hu with rfl | rfl <;> rfl) (by unfold maxLen; omega) (by omega) HB2a.out.size ?_; intro v3 w3 hown3 hgrow3 _; obtain ⟨g, cq, rfl, hg1, hg2, hcq, hm3, h77⟩ := HC.pown w3 _ v3 hown3; have HB3 := hide (below_own3 HB2a.out HO2a.out (Nat.le_refl _) HB2a.out.size hgrow3); have HM3 := hide hm3; have H77 := hide h77; have HX3 := hide (HX0.out.call HB3.out); clear hown3 hgrow3 hm3 h77; have hl1 : (n : Int) ≤ (cq : Int) := (by omega); have x0 := HX3.out.box.cells.1; have x1 := HX3.out.box.cells.2.1; have x2 := HX3.out.box.cells.2.2.1; have x3 := HX3.out.box.cells.2.2.2))
  clear HO2 HB2 HO2a HB2a HG2 HROW0 HBW1 HSRC hnl
  try clear hl1
  try clear d1 d1'
  refine (HC.go _ _ w3 HM3.out).mono ?_
  rintro e w4 ⟨rfl, hB⟩
  have HX4 := hide (HX3.out.call hB)
  have HB4 := hide hB
  clear hB x0 x1 x2 x3
  obtain ⟨x0, x1, x2, x3⟩ := HX4.out.box.cells
  go_wp2_with fail
  refine (HC.wh _ _ w4 (HM3.out.below HB4.out (Nat.le_refl _))).mono ?_
  rintro e w5 ⟨rfl, hB⟩
  have HX5 := hide (HX4.out.call hB)
  have HB5 := hide (HB4.out.trans (hB.mono HB4.out.size))
  clear hB x0 x1 x2 x3
  obtain ⟨x0, x1, x2, x3⟩ := HX5.out.box.cells
  go_wp2_with fail
  refine (HC.nx _ _ w5 (HM3.out.below HB5.out (Nat.le_refl _))).mono ?_
  rintro e w6 ⟨rfl, hB⟩
  have HX6 := hide (HX5.out.call hB)
  have HB6 := hide (HB5.out.trans (hB.mono HB5.out.size))
  clear hB x0 x1 x2 x3
  go_wp2_with fail
  refine (HC.by_ _ _ w6 (HM3.out.below HB6.out (Nat.le_refl _))).mono ?_
  rintro e w7 ⟨rfl, hB⟩
  have HX7 := hide (HX6.out.call hB)
  have HB7 := hide (HB6.out.trans (hB.mono HB6.out.size))
  clear hB HX3 HX4 HX5 HX6 HB4 HB5 HB6
  go_wp2_with fail
  go_loopw [17] (fun i wr => ∃ (k : Nat), k ≤ n ∧ i = .int .i64 k ∧ Hid (RSt w wr (w.heap.size + 1) ⟨ry, ra, rp, rw'⟩) ∧ Hid (Below w3.heap.size w3 wr)) (fun i _ => n - (intOf i).toNat)
  case atStart => exact ⟨0, by omega, rfl, HX7, HB7⟩
  case round =>
    clear HX7 HB7
    obtain ⟨k, hk, rfl, HX, HBW⟩ := hrel
    by_cases hlt : k < n
    · as_aux_lemma =>
        have d1 : decide ((k : Int) < (n : Int)) = true := decide_eq_true (by omega)
        have d1' : decide (k < n) = true := decide_eq_true hlt
        have hx1 : (k : Int) < (n : Int) := by omega
        have hx2 : (0 : Int) ≤ (k : Int) := by omega
        obtain ⟨b2, o2, e, m0, m1, m2⟩ := (HM3.out.below HBW.out (Nat.le_refl _)) k (by rw [HC.len]; exact hlt)
        injection e with e
        injection e with e1 e2
        subst e1 e2
        obtain ⟨b3, o3, rfl, c0, c1, c2⟩ := (HC.pcs.below HX.out.bel (Nat.le_refl _)) k (by rw [HC.len]; exact hlt)
        rw [Nat.zero_add] at m0 m1 m2
        generalize l.getD k default = pc at *
        obtain ⟨pb, py, pt⟩ := pc
        dsimp only at c0 c1 c2 m0 m1 m2
        have HXD := hide (fun nq => HX.out.drewN nq)
        have HJ := hide hlt
        go_upto_region 12 with fail
        go_quiet (fail)
        go_wp2_with fail
        go_roundw
        case rel => exact ⟨k + 1, by have := HJ.out; omega, by go_num, hide (HXD.out nq), hide (belowDrewN HBW.out nq)⟩
        case measure => have := HJ.out; simp [intOf] <;> omega
    · obtain rfl : k = n := by omega
      have d1 : decide ((k : Int) < (k : Int)) = false := decide_eq_false (by omega)
      have d1' : decide (k < k) = false := decide_eq_false (by omega)
      go_wp2_with fail
      clear d1 d1'
      go_cut [110] from 84 to 110 (fun q wc => q = .bool false ∧ Hid (RSt w wc (w.heap.size + 1) ⟨ry, ra, rp, rw'⟩))
      case first =>
        as_aux_lemma =>
          have HBX := hide (fun (w' : World) (hB : Below wr.drew.heap.size wr.drew w') => (show Below wr.heap.size wr w' from ⟨hB.os, hB.tape, hB.output, hB.size, hB.block⟩))
          have CB0 := hide (fun (w' : World) (hB : Below wr.drew.heap.size wr.drew w') => (HX.out.call (HBX.out w' hB)).box.cells)
          have C77 := hide (fun (w' : World) (hB : Below wr.drew.heap.size wr.drew w') => ((HBW.out.trans ((HBX.out w' hB).mono HBW.out.size)).cell (p := ⟨g, k * 3, none⟩) hg2).trans H77.out)
          have CO1 := hide (fun (w' : World) (hB : Below wr.drew.heap.size wr.drew w') => HC.or_ (some ⟨g, 0, none⟩) cq w' (HM3.out.below (HBW.out.trans ((HBX.out w' hB).mono HBW.out.size)) (Nat.le_refl _)))
          have CO2 := hide (fun (w' : World) (hB : Below wr.drew.heap.size wr.drew w') => HC.ro w' (HX.out.call (HBX.out w' hB)).bel)
          have hl1 : (k : Int) + 1 ≤ (cq : Int) := by omega
          have hl2 : IntKind.i64.wrap ((k : Int) + 1) = (k : Int) + 1 := by rw [IntKind.wrap_i64]; omega
          have hq1 : (CE != CE) = false := by simp
          have hq2 : (E0 != E0) = false := by simp
          refine wp_region_fill [(0, 84), (1, 85), (2, 86), (3, 87), (4, 88), (5, 89), (6, 90), (7, 91), (8, 92), (9, 93), (10, 94), (11, 95), (12, 96), (13, 97), (14, 98), (15, 99), (16, 100), (17, 101), (18, 102), (19, 103), (20, 104), (21, 105), (22, 106), (23, 107), (24, 108), (25, 109), (26, 110)]
            (fun q x w' => match q with
              | 0 => x = .slice (some ⟨g, 0, none⟩) k cq
              | 1 => x = .slice a k c
              | 2 => x = .int .i64 (k : Nat)
              | 3 => x = .int .i64 ((k : Int) + 1)
              | 4 => x = .slice (some ⟨g, 0, none⟩) (k + 1) cq
              | 5 => x = .slice a k c
              | 6 => x = .int .i64 (k : Nat)
              | 7 => x = .pointer (some ⟨g, k * 3, none⟩)
              | 8 => x = .pointer (some ⟨g, k * 3, none⟩)
              | 9 => x = .int .i64 77
              | 10 => x = .bool false
              | 11 => x = .bool false
              | 12 => x = .agg #[.int .i64 ry, .int .i64 ra, .int .i64 rp, .int .i64 rw']
              | 13 => x = .int .i64 CE
              | 14 => x = .int .i64 CE
              | 15 => x = .agg #[.int .i64 ry, .int .i64 ra, .int .i64 rp, .int .i64 rw']
              | 16 => x = .int .i64 CE
              | 17 => x = .bool false
              | 18 => x = .bool false
              | 19 => x = .bool false
              | 20 => x = .slice (some ⟨g, 0, none⟩) k cq
              | 21 => x = .int .i64 E0
              | 22 => x = .int .i64 E0
              | 23 => x = .slice a k c
              | 24 => x = .int .i64 E0
              | 25 => x = .bool false
              | 26 => x = .bool false
              | _ => True) (by kernel_rfl) (by kernel_rfl) (by kernel_rfl) (by kernel_rfl) (by decide) ?_ ?_ ?_
          · intro q x w' w'' hB h
            revert h
            split <;> intro h <;> exact h
          · simp only [FillAll]
            refine ⟨?_, ?_, ?_, ?_, ?_, ?_, ?_, ?_, ?_, ?_, ?_, ?_, ?_, ?_, ?_, ?_, ?_, ?_, ?_, ?_, ?_, ?_, ?_, ?_, ?_, ?_, ?_, trivial⟩
            · intro v w' hB hdep K' hK
              simp only [fillAct, Act.put, List.setIfInBounds_toArray, List.set_cons_zero, List.set_cons_succ] at hK ⊢
              rw [if_pos (by rfl)]
              go_simp
              exact hK.out _ _ (Below.refl _ _) rfl
            · intro v w' hB hdep K' hK
              simp only [fillAct, Act.put, List.setIfInBounds_toArray, List.set_cons_zero, List.set_cons_succ] at hK ⊢
              rw [if_pos (by rfl)]
              go_simp
              exact hK.out _ _ (Below.refl _ _) rfl
            · intro v w' hB hdep K' hK
              have h1 : v 1 = .slice a k c := hdep ⟨1, .data⟩ (by simp) rfl
              simp only [fillAct, Act.put, List.setIfInBounds_toArray, List.set_cons_zero, List.set_cons_succ, h1] at hK ⊢
              rw [if_pos (by rfl)]
              go_simp
              exact hK.out _ _ (Below.refl _ _) rfl
            · intro v w' hB hdep K' hK
              have h2 : v 2 = .int .i64 (k : Nat) := hdep ⟨2, .data⟩ (by simp) rfl
              simp only [fillAct, Act.put, List.setIfInBounds_toArray, List.set_cons_zero, List.set_cons_succ, h2] at hK ⊢
              rw [if_pos (by rfl)]
              go_simp
              exact hK.out _ _ (Below.refl _ _) rfl
            · intro v w' hB hdep K' hK
              have h0 : v 0 = .slice (some ⟨g, 0, none⟩) k cq := hdep ⟨0, .data⟩ (by simp) rfl
              have h3 : v 3 = .int .i64 ((k : Int) + 1) := hdep ⟨3, .data⟩ (by simp) rfl
              simp only [fillAct, Act.put, List.setIfInBounds_toArray, List.set_cons_zero, List.set_cons_succ, h0, h3] at hK ⊢
              rw [if_pos (by rfl)]
              go_simp
              exact hK.out _ _ (Below.refl _ _) rfl
            · intro v w' hB hdep K' hK
              simp only [fillAct, Act.put, List.setIfInBounds_toArray, List.set_cons_zero, List.set_cons_succ] at hK ⊢
              rw [if_pos (by rfl)]
              go_simp
              exact hK.out _ _ (Below.refl _ _) rfl
            · intro v w' hB hdep K' hK
              have h5 : v 5 = .slice a k c := hdep ⟨5, .data⟩ (by simp) rfl
              simp only [fillAct, Act.put, List.setIfInBounds_toArray, List.set_cons_zero, List.set_cons_succ, h5] at hK ⊢
              rw [if_pos (by rfl)]
              go_simp
              exact hK.out _ _ (Below.refl _ _) rfl
            · intro v w' hB hdep K' hK
              have h4 : v 4 = .slice (some ⟨g, 0, none⟩) (k + 1) cq := hdep ⟨4, .data⟩ (by simp) rfl
              have h6 : v 6 = .int .i64 (k : Nat) := hdep ⟨6, .data⟩ (by simp) rfl
              simp only [fillAct, Act.put, List.setIfInBounds_toArray, List.set_cons_zero, List.set_cons_succ, h4, h6] at hK ⊢
              rw [if_pos (by rfl)]
              go_simp
              rw [if_pos (by omega)]
              exact hK.out _ _ (Below.refl _ _) rfl
            · intro v w' hB hdep K' hK
              have h7 : v 7 = .pointer (some ⟨g, k * 3, none⟩) := hdep ⟨7, .data⟩ (by simp) rfl
              simp only [fillAct, Act.put, List.setIfInBounds_toArray, List.set_cons_zero, List.set_cons_succ, h7] at hK ⊢
              rw [if_pos (by rfl)]
              go_simp
              exact hK.out _ _ (Below.refl _ _) rfl
            · intro v w' hB hdep K' hK
              have h8 : v 8 = .pointer (some ⟨g, k * 3, none⟩) := hdep ⟨8, .data⟩ (by simp) rfl
              have c77 := C77.out w' hB
              simp only [fillAct, Act.put, List.setIfInBounds_toArray, List.set_cons_zero, List.set_cons_succ, h8] at hK ⊢
              rw [if_pos (by rfl)]
              go_simp
              exact hK.out _ _ (Below.refl _ _) rfl
            · intro v w' hB hdep K' hK
              have h9 : v 9 = .int .i64 77 := hdep ⟨9, .data⟩ (by simp) rfl
              simp only [fillAct, Act.put, List.setIfInBounds_toArray, List.set_cons_zero, List.set_cons_succ, h9] at hK ⊢
              rw [if_pos (by rfl)]
              go_simp
              exact hK.out _ _ (Below.refl _ _) rfl
            · intro v w' hB hdep K' hK
              have h10 : v 10 = .bool false := hdep ⟨10, .data⟩ (by simp) rfl
              simp only [fillAct, Act.put, List.setIfInBounds_toArray, List.set_cons_zero, List.set_cons_succ, h10] at hK ⊢
              rw [if_pos (by rfl)]
              go_simp
              exact hK.out _ _ (Below.refl _ _) rfl
            · intro v w' hB hdep K' hK
              have h11 : v 11 = .bool false := hdep ⟨11, .guard⟩ (by simp) rfl
              have x0 := (CB0.out w' hB).1
              have x1 := (CB0.out w' hB).2.1
              have x2 := (CB0.out w' hB).2.2.1
              have x3 := (CB0.out w' hB).2.2.2
              simp only [fillAct, Act.put, List.setIfInBounds_toArray, List.set_cons_zero, List.set_cons_succ, h11] at hK ⊢
              rw [if_pos (by rfl)]
              go_simp
              exact hK.out _ _ (Below.refl _ _) rfl
            · intro v w' hB hdep K' hK
              have h12 : v 12 = .agg #[.int .i64 ry, .int .i64 ra, .int .i64 rp, .int .i64 rw'] := hdep ⟨12, .data⟩ (by simp) rfl
              have h11 : v 11 = .bool false := hdep ⟨11, .guard⟩ (by simp) rfl
              simp only [fillAct, Act.put, List.setIfInBounds_toArray, List.set_cons_zero, List.set_cons_succ, h12, h11] at hK ⊢
              rw [if_pos (by rfl)]
              go_simp
              refine (HC.ck w').mono ?_
              rintro e w9 ⟨rfl, hB9⟩
              exact hK.out _ _ hB9 rfl
            · intro v w' hB hdep K' hK
              have h13 : v 13 = .int .i64 CE := hdep ⟨13, .data⟩ (by simp) rfl
              have h11 : v 11 = .bool false := hdep ⟨11, .guard⟩ (by simp) rfl
              simp only [fillAct, Act.put, List.setIfInBounds_toArray, List.set_cons_zero, List.set_cons_succ, h13, h11] at hK ⊢
              rw [if_pos (by rfl)]
              go_simp
              refine (num_ok _ w').mono ?_
              rintro e w9 ⟨rfl, rfl⟩
              exact hK.out _ _ (Below.refl _ _) rfl
            · intro v w' hB hdep K' hK
              have h11 : v 11 = .bool false := hdep ⟨11, .guard⟩ (by simp) rfl
              have x0 := (CB0.out w' hB).1
              have x1 := (CB0.out w' hB).2.1
              have x2 := (CB0.out w' hB).2.2.1
              have x3 := (CB0.out w' hB).2.2.2
              simp only [fillAct, Act.put, List.setIfInBounds_toArray, List.set_cons_zero, List.set_cons_succ, h11] at hK ⊢
              rw [if_pos (by rfl)]
              go_simp
              exact hK.out _ _ (Below.refl _ _) rfl
            · intro v w' hB hdep K' hK
              have h15 : v 15 = .agg #[.int .i64 ry, .int .i64 ra, .int .i64 rp, .int .i64 rw'] := hdep ⟨15, .data⟩ (by simp) rfl
              have h11 : v 11 = .bool false := hdep ⟨11, .guard⟩ (by simp) rfl
              simp only [fillAct, Act.put, List.setIfInBounds_toArray, List.set_cons_zero, List.set_cons_succ, h15, h11] at hK ⊢
              rw [if_pos (by rfl)]
              go_simp
              refine (HC.rc w').mono ?_
              rintro e w9 ⟨rfl, hB9⟩
              exact hK.out _ _ hB9 rfl
            · intro v w' hB hdep K' hK
              have h14 : v 14 = .int .i64 CE := hdep ⟨14, .data⟩ (by simp) rfl
              have h16 : v 16 = .int .i64 CE := hdep ⟨16, .data⟩ (by simp) rfl
              have h11 : v 11 = .bool false := hdep ⟨11, .guard⟩ (by simp) rfl
              simp only [fillAct, Act.put, List.setIfInBounds_toArray, List.set_cons_zero, List.set_cons_succ, h14, h16, h11] at hK ⊢
              rw [if_pos (by rfl)]
              go_simp
              exact hK.out _ _ (Below.refl _ _) rfl
            · intro v w' hB hdep K' hK
              have h11 : v 11 = .bool false := hdep ⟨11, .data⟩ (by simp) rfl
              have h17 : v 17 = .bool false := hdep ⟨17, .data⟩ (by simp) rfl
              simp only [fillAct, Act.put, List.setIfInBounds_toArray, List.set_cons_zero, List.set_cons_succ, h11, h17] at hK ⊢
              rw [if_pos (by rfl)]
              go_simp
              exact hK.out _ _ (Below.refl _ _) rfl
            · intro v w' hB hdep K' hK
              have h18 : v 18 = .bool false := hdep ⟨18, .data⟩ (by simp) rfl
              simp only [fillAct, Act.put, List.setIfInBounds_toArray, List.set_cons_zero, List.set_cons_succ, h18] at hK ⊢
              rw [if_pos (by rfl)]
              go_simp
              exact hK.out _ _ (Below.refl _ _) rfl
            · intro v w' hB hdep K' hK
              have h19 : v 19 = .bool false := hdep ⟨19, .guard⟩ (by simp) rfl
              simp only [fillAct, Act.put, List.setIfInBounds_toArray, List.set_cons_zero, List.set_cons_succ, h19] at hK ⊢
              rw [if_pos (by rfl)]
              go_simp
              exact hK.out _ _ (Below.refl _ _) rfl
            · intro v w' hB hdep K' hK
              have h20 : v 20 = .slice (some ⟨g, 0, none⟩) k cq := hdep ⟨20, .data⟩ (by simp) rfl
              have h19 : v 19 = .bool false := hdep ⟨19, .guard⟩ (by simp) rfl
              simp only [fillAct, Act.put, List.setIfInBounds_toArray, List.set_cons_zero, List.set_cons_succ, h20, h19] at hK ⊢
              rw [if_pos (by rfl)]
              go_simp
              refine (CO1.out w' hB).mono ?_
              rintro e w9 ⟨rfl, hB9⟩
              exact hK.out _ _ hB9 rfl
            · intro v w' hB hdep K' hK
              have h21 : v 21 = .int .i64 E0 := hdep ⟨21, .data⟩ (by simp) rfl
              have h19 : v 19 = .bool false := hdep ⟨19, .guard⟩ (by simp) rfl
              simp only [fillAct, Act.put, List.setIfInBounds_toArray, List.set_cons_zero, List.set_cons_succ, h21, h19] at hK ⊢
              rw [if_pos (by rfl)]
              go_simp
              refine (num_ok _ w').mono ?_
              rintro e w9 ⟨rfl, rfl⟩
              exact hK.out _ _ (Below.refl _ _) rfl
            · intro v w' hB hdep K' hK
              have h19 : v 19 = .bool false := hdep ⟨19, .guard⟩ (by simp) rfl
              simp only [fillAct, Act.put, List.setIfInBounds_toArray, List.set_cons_zero, List.set_cons_succ, h19] at hK ⊢
              rw [if_pos (by rfl)]
              go_simp
              exact hK.out _ _ (Below.refl _ _) rfl
            · intro v w' hB hdep K' hK
              have h23 : v 23 = .slice a k c := hdep ⟨23, .data⟩ (by simp) rfl
              have h19 : v 19 = .bool false := hdep ⟨19, .guard⟩ (by simp) rfl
              simp only [fillAct, Act.put, List.setIfInBounds_toArray, List.set_cons_zero, List.set_cons_succ, h23, h19] at hK ⊢
              rw [if_pos (by rfl)]
              go_simp
              refine (CO2.out w' hB).mono ?_
              rintro e w9 ⟨rfl, hB9⟩
              exact hK.out _ _ hB9 rfl
            · intro v w' hB hdep K' hK
              have h22 : v 22 = .int .i64 E0 := hdep ⟨22, .data⟩ (by simp) rfl
              have h24 : v 24 = .int .i64 E0 := hdep ⟨24, .data⟩ (by simp) rfl
              have h19 : v 19 = .bool false := hdep ⟨19, .guard⟩ (by simp) rfl
              simp only [fillAct, Act.put, List.setIfInBounds_toArray, List.set_cons_zero, List.set_cons_succ, h22, h24, h19] at hK ⊢
              rw [if_pos (by rfl)]
              go_simp
              exact hK.out _ _ (Below.refl _ _) rfl
            · intro v w' hB hdep K' hK
              have h19 : v 19 = .bool false := hdep ⟨19, .data⟩ (by simp) rfl
              have h25 : v 25 = .bool false := hdep ⟨25, .data⟩ (by simp) rfl
              simp only [fillAct, Act.put, List.setIfInBounds_toArray, List.set_cons_zero, List.set_cons_succ, h19, h25] at hK ⊢
              rw [if_pos (by rfl)]
              go_simp
              exact hK.out _ _ (Below.refl _ _) rfl
          · intro v w' hB hall
            have h26 : v 26 = .bool false := hall 26 (by decide)
            have HX8 := hide (HX.out.call (HBX.out w' hB))
            simp only [fillAct, Act.put, List.setIfInBounds_toArray, List.set_cons_zero, List.set_cons_succ, h26]
            go_wp2_with fail
            go_meet
            exact ⟨rfl, HX8⟩
      case rest =>
      obtain ⟨rfl, HX8⟩ := hcut
      rcases HC.e02 with e | e
      · subst e
        have hb1 : (BX != BX) = false := by simp
        go_wp2_with fail
        refine (HC.ro _ HX8.out.bel).mono ?_
        rintro e w9 ⟨rfl, hB⟩
        have HX9 := hide (HX8.out.call hB)
        clear hB
        go_wp2_with fail
        refine (HC.rb rfl _ HX9.out.bel).mono ?_
        rintro e w' ⟨rfl, rfl⟩
        obtain ⟨x0, x1, x2, x3⟩ := HX9.out.box.cells
        go_wp2_with (go_at_call 8; with_reducible refine (num_ok _ _).mono ?_; rintro e w' ⟨rfl, rfl⟩)
        refine (HC.rc _).mono ?_
        rintro e w10 ⟨rfl, hB⟩
        have HX10 := hide (HX9.out.call hB)
        clear hB x0 x1 x2 x3
        cases cb
        · as_aux_lemma =>
            obtain rfl : CE = 2 := HC.ce
            obtain rfl : ME = 2 := HC.m2 (.inl rfl)
            obtain ⟨rfl, rfl, rfl, rfl, rfl⟩ := HC.bad rfl
            go_wp2_with (go_at_call 8; with_reducible refine (num_ok _ _).mono ?_; rintro e w' ⟨rfl, rfl⟩)
            refine (works_ok _).mono ?_
            rintro e w99 ⟨rfl, hB⟩
            go_wp2
            go_ret
            exact ⟨rfl, (HX10.out.call hB).bel⟩
        obtain rfl : CE = 0 := HC.ce
        cases nb
        · as_aux_lemma =>
            obtain rfl : ME = 2 := HC.m2 (.inr (.inl rfl))
            obtain ⟨rfl, rfl, rfl, rfl, rfl⟩ := HC.bad rfl
            go_wp2_with (first | (go_at_call 8; with_reducible refine (num_ok _ _).mono ?_; rintro e w' ⟨rfl, rfl⟩) | (go_at_call 12; with_reducible refine (HC.nw _).mono ?_; rintro e w' ⟨rfl, rfl⟩))
            refine (works_ok _).mono ?_
            rintro e w99 ⟨rfl, hB⟩
            go_wp2
            go_ret
            exact ⟨rfl, (HX10.out.call hB).bel⟩
        go_wp2_with (go_at_call 12; with_reducible refine (HC.nw _).mono ?_; rintro e w' ⟨rfl, rfl⟩)
        refine (HC.ro _ HX10.out.bel).mono ?_
        rintro e w11 ⟨rfl, hB⟩
        have HX11 := hide (HX10.out.call hB)
        clear hB
        obtain rfl : ME = 0 := HC.m0 rfl rfl rfl
        obtain ⟨x0, x1, x2, x3⟩ := HX11.out.box.cells
        go_wp2_with fail
        refine (HC.rn rfl _ HX11.out.bel).mono ?_
        rintro e w12 ⟨rfl, hB⟩
        have HX12 := hide (HX11.out.call hB)
        clear hB x0 x1 x2 x3
        obtain ⟨x0, x1, x2, x3⟩ := HX12.out.box.cells
        go_wp2_with fail
        refine (HC.rg rfl _ HX12.out.bel).mono ?_
        rintro e w13 ⟨rfl, hB⟩
        have HX13 := hide (HX12.out.call hB)
        clear hB x0 x1 x2 x3
        have hb2 : (NG != NG) = false := by simp
        have hb3 : (T != T) = false := by simp
        have hb4 : (B != B) = false := by simp
        by_cases ha : at0 < 0
        · as_aux_lemma =>
            obtain ⟨rfl, rfl⟩ := HC.out rfl (.inl ha)
            have d1 : decide (at0 < 0) = true := decide_eq_true ha
            clear ha
            go_wp2_with (go_at_call 8; with_reducible refine (num_ok _ _).mono ?_; rintro e w' ⟨rfl, rfl⟩)
            refine (works_ok _).mono ?_
            rintro e w99 ⟨rfl, hB⟩
            go_wp2
            go_ret
            exact ⟨rfl, (HX13.out.call hB).bel⟩
        have d1 : decide (at0 < 0) = false := decide_eq_false ha
        by_cases hb : (k : Int) ≤ at0
        · as_aux_lemma =>
            obtain ⟨rfl, rfl⟩ := HC.out rfl (.inr hb)
            have d2 : decide ((k : Int) ≤ at0) = true := decide_eq_true hb
            clear ha hb
            go_wp2_with (go_at_call 8; with_reducible refine (num_ok _ _).mono ?_; rintro e w' ⟨rfl, rfl⟩)
            refine (works_ok _).mono ?_
            rintro e w99 ⟨rfl, hB⟩
            go_wp2
            go_ret
            exact ⟨rfl, (HX13.out.call hB).bel⟩
        have d2 : decide ((k : Int) ≤ at0) = false := decide_eq_false hb
        obtain rfl : WE = 0 := HC.in_ rfl (by omega) (by omega)
        have HRW := hide (HC.rwh rfl (by omega) (by omega))
        have hb5 : (WN == WN) = true := by simp
        clear ha hb
        obtain ⟨x0, x1, x2, x3⟩ := HX13.out.box.cells
        go_wp2_with (go_at_call 8; with_reducible refine (num_ok _ _).mono ?_; rintro e w' ⟨rfl, rfl⟩)
        refine (HRW.out _ HX13.out.bel).mono ?_
        rintro e w14 ⟨rfl, hB⟩
        have HX14 := hide (HX13.out.call hB)
        clear hB x0 x1 x2 x3
        go_wp2_with (go_at_call 8; with_reducible refine (num_ok _ _).mono ?_; rintro e w' ⟨rfl, rfl⟩)
        refine (works_ok _).mono ?_
        rintro e w99 ⟨rfl, hB⟩
        go_wp2
        go_ret
        exact ⟨rfl, (HX14.out.call hB).bel⟩
      · subst e
        obtain rfl : ME = 2 := HC.m2 (.inr (.inr rfl))
        obtain ⟨rfl, rfl, rfl, rfl, rfl⟩ := HC.bad rfl
        obtain rfl : BX = 0 := HC.xz rfl
        go_wp2_with fail
        refine (HC.ro _ HX8.out.bel).mono ?_
        rintro e w9 ⟨rfl, hB⟩
        have HX9 := hide (HX8.out.call hB)
        clear hB
        go_wp2_with (go_at_call 8; with_reducible refine (num_ok _ _).mono ?_; rintro e w' ⟨rfl, rfl⟩)
        refine (HC.ro _ HX9.out.bel).mono ?_
        rintro e w10 ⟨rfl, hB⟩
        have HX10 := hide (HX9.out.call hB)
        clear hB
        obtain ⟨x0, x1, x2, x3⟩ := HX10.out.box.cells
        go_wp2_with fail
        refine (HC.rc _).mono ?_
        rintro e w11 ⟨rfl, hB⟩
        have HX11 := hide (HX10.out.call hB)
        clear hB x0 x1 x2 x3
        cases cb
        · as_aux_lemma =>
            obtain rfl : CE = 2 := HC.ce
            go_wp2_with (go_at_call 8; with_reducible refine (num_ok _ _).mono ?_; rintro e w' ⟨rfl, rfl⟩)
            refine (works_ok _).mono ?_
            rintro e w99 ⟨rfl, hB⟩
            go_wp2
            go_ret
            exact ⟨rfl, (HX11.out.call hB).bel⟩
        obtain rfl : CE = 0 := HC.ce
        cases nb
        · as_aux_lemma =>
            go_wp2_with (first | (go_at_call 8; with_reducible refine (num_ok _ _).mono ?_; rintro e w' ⟨rfl, rfl⟩) | (go_at_call 12; with_reducible refine (HC.nw _).mono ?_; rintro e w' ⟨rfl, rfl⟩))
            refine (works_ok _).mono ?_
            rintro e w99 ⟨rfl, hB⟩
            go_wp2
            go_ret
            exact ⟨rfl, (HX11.out.call hB).bel⟩
        go_wp2_with (go_at_call 12; with_reducible refine (HC.nw _).mono ?_; rintro e w' ⟨rfl, rfl⟩)
        refine (HC.ro _ HX11.out.bel).mono ?_
        rintro e w12 ⟨rfl, hB⟩
        have HX12 := hide (HX11.out.call hB)
        clear hB
        go_wp2_with (go_at_call 8; with_reducible refine (num_ok _ _).mono ?_; rintro e w' ⟨rfl, rfl⟩)
        refine (works_ok _).mono ?_
        rintro e w99 ⟨rfl, hB⟩
        go_wp2
        go_ret
        exact ⟨rfl, (HX12.out.call hB).bel⟩

set_option maxHeartbeats 1600000 in
theorem tells_small (r : R4) (now later at0 : Int) (a : Option Addr) (c : Nat) (l : List P3) (w : World) (hcap : l.length ≤ c) (hnil : a = none → l.length = 0 ∧ c = 0) (hp : PcsAt w a l) (h60 : l.length ≤ 60) :
    Calls Try.prog 6 #[.agg (caseV r now later at0 a l.length c)] w fun e w' => e = .returned (.bool true) ∧ Below w.heap.size w w' := by
  -- contracts
  have HGO := hide (fun (a' : Option Addr) (c' : Nat) (w' : World) (h : PcsAt w' a' l) => Goes_ok r now a' c' l w' (by omega) h)
  have HWH := hide (fun (a' : Option Addr) (c' : Nat) (w' : World) (h : PcsAt w' a' l) => Why_ok r now at0 a' c' l w' (by omega) h)
  have HNX := hide (fun (a' : Option Addr) (c' : Nat) (w' : World) (h : PcsAt w' a' l) => Next_ok r now a' c' l w' (by omega) h)
  have HBY := hide (fun (a' : Option Addr) (c' : Nat) (w' : World) (h : PcsAt w' a' l) => Bytes_ok a' c' l w' (by omega) h)
  have HOR := hide (fun (a' : Option Addr) (c' : Nat) (w' : World) (h : PcsAt w' a' l) => Ordered_ok a' c' l w' (by omega) h)
  have HRO := hide (fun (w' : World) (hB : Below w.heap.size w w') => refOrdered_ok a c l w' (by omega) (hp.below hB (Nat.le_refl _)))
  have HCK := hide (Check_ok r)
  have HRC := hide (refCheck_ok r)
  have HNW := hide (now_ok now)
  have HRB : Hid (ordE l = 0 → ∀ (w' : World) (hB : Below w.heap.size w w'), Calls Try.prog 18 #[.slice a l.length c] w' fun e w'' => e = .returned (.int .i64 (if ordE l = 0 then bytesS l else 0)) ∧ w' = w'') := hide (fun h0 w' hB => by
    rw [if_pos h0]
    obtain ⟨_, _, _, ho⟩ := mayE_ok (r := ⟨0, 0, 0, 0⟩) (now := 0) (mayE_of rfl rfl h0)
    exact refBytes_ok a c l w' (by omega) (ordFrom_b ho) (hp.below hB (Nat.le_refl _)))
  have HRN : Hid (mayE r now l = 0 → ∀ (w' : World) (hB : Below w.heap.size w w'), Calls Try.prog 19 #[.agg (ruleV r), .int .i64 now, .slice a l.length c] w' fun e w'' => e = .returned (.tuple #[.int .i64 (nextT r now l), .bool (nextB r now l)]) ∧ Below w'.heap.size w' w'') := hide (fun h0 w' hB => refNext_ok r now a c l w' h0 h60 hcap (hp.below hB (Nat.le_refl _)))
  have HRG : Hid (mayE r now l = 0 → ∀ (w' : World) (hB : Below w.heap.size w w'), Calls Try.prog 20 #[.agg (ruleV r), .int .i64 now, .slice a l.length c] w' fun e w'' => e = .returned (.int .i64 (goesN r now l)) ∧ Below w'.heap.size w' w'') := hide (fun h0 w' hB => by
    rw [goesN_of h0]
    obtain ⟨_, h2, _, h4⟩ := mayE_ok h0
    exact refGoes_ok r now a c l w' (by omega) hcap h2 (ordFrom_b h4) (hp.below hB (Nat.le_refl _)))
  have HRW : Hid (mayE r now l = 0 → 0 ≤ at0 → at0 < (l.length : Int) → ∀ (w' : World) (hB : Below w.heap.size w w'), Calls Try.prog 21 #[.agg (ruleV r), .int .i64 now, .slice a l.length c, .int .i64 at0] w' fun e w'' => e = .returned (.int .i64 (whyN r now at0 l)) ∧ Below w'.heap.size w' w'') := hide (fun h0 h5 h6 w' hB => by
    obtain ⟨_, h2, _, h4⟩ := mayE_ok h0
    obtain ⟨k, rfl⟩ := Int.eq_ofNat_of_zero_le h5
    have h := refWhy_ok r now a c l k w' (by omega) (by omega) hcap h2 (ordFrom_b h4) (hp.below hB (Nat.le_refl _))
    have e : whyN r now (k : Int) l = if goesB ((alsL r now l).getD k 0) = true ∧ cntL (alsL r now l) ≤ k then 6 else (alsL r now l).getD k 0 := by
      unfold whyN
      rw [if_pos ⟨h0, h5, h6⟩, Int.toNat_natCast]
      by_cases hh : goesB ((alsL r now l).getD k 0) = true ∧ cntL (alsL r now l) ≤ k
      · rw [if_pos hh, if_pos ⟨hh.1, by omega⟩]
      · rw [if_neg hh, if_neg (fun h => hh ⟨h.1, by omega⟩)]
    rw [e]
    exact h)
  -- plain facts
  have HE02 : Hid (ordE l = 0 ∨ ordE l = 2) := hide (by unfold ordE; rw [if_neg (by omega)]; by_cases h : ordFrom (-1) l = true <;> simp [h])
  have HM0 : Hid (chkB r = true → inB now 9007199254740992 = true → ordE l = 0 → mayE r now l = 0) := hide mayE_of
  have HM2 : Hid (chkB r = false ∨ inB now 9007199254740992 = false ∨ ordE l = 2 → mayE r now l = 2) := hide (fun h => by
    unfold mayE
    by_cases hq : (chkB r && inB now 9007199254740992) = true
    · rw [if_pos hq]
      simp only [Bool.and_eq_true] at hq
      rcases h with h | h | h
      · rw [h] at hq; cases hq.1
      · rw [h] at hq; cases hq.2
      · exact h
    · rw [if_neg hq])
  have HBAD : Hid (mayE r now l = 2 → goesN r now l = 0 ∧ whyN r now at0 l = 0 ∧ whyE r now at0 l = 2 ∧ nextT r now l = 0 ∧ nextB r now l = false) := hide (fun h => by
    have hne : mayE r now l ≠ 0 := by omega
    refine ⟨by unfold goesN; rw [if_neg hne], by unfold whyN; rw [if_neg (fun h' => hne h'.1)], by unfold whyE; rw [if_neg hne]; exact h, (nextB_no (.inl hne)).2, (nextB_no (.inl hne)).1⟩)
  have HOUT : Hid (mayE r now l = 0 → at0 < 0 ∨ (l.length : Int) ≤ at0 → whyN r now at0 l = 0 ∧ whyE r now at0 l = 2) := hide (fun h0 h => by
    refine ⟨by unfold whyN; rw [if_neg (fun h' => by omega)], by unfold whyE; rw [if_pos h0, if_pos h]⟩)
  have HIN : Hid (mayE r now l = 0 → 0 ≤ at0 → at0 < (l.length : Int) → whyE r now at0 l = 0) := hide (fun h0 h5 h6 => by unfold whyE; rw [if_pos h0, if_neg (by omega)])
  have HXZ : Hid (ordE l = 2 → (if ordE l = 0 then bytesS l else 0) = 0) := hide (fun h => if_neg (by omega))
  have HCE : Hid (chkE r = if chkB r = true then 0 else 2) := hide rfl
  have HLC := hide (pcsCells_append l [(⟨77, 0, 0⟩ : P3)])
  have HLL := hide (pcsCells_length l)
  have HL1 := hide (pcsCells_one l)
  have HSR := hide (fun (w' : World) (hB : Below w.heap.size w w') => pcs_src (hp.below hB (Nat.le_refl _)))
  have HP := hide hp
  have HAP : Hid (∀ (w' : World) (a' : Option Addr), PcsAt w' a' (l ++ [(⟨77, 0, 0⟩ : P3)]) → PcsAt w' a' l ∧ ∃ b off, a' = some ⟨b, off, none⟩ ∧ w'.cell? ⟨b, off + l.length * 3, none⟩ = some (.int .i64 77)) := hide (fun w' a' h => by
    refine ⟨fun j hj => ?_, ?_⟩
    · have := h j (by simp; omega)
      rw [List.getD_eq_getElem?_getD, List.getElem?_append_left hj, ← List.getD_eq_getElem?_getD] at this
      exact this
    · obtain ⟨b, off, e, h1, _⟩ := h l.length (by simp)
      refine ⟨b, off, e, ?_⟩
      rw [h1, List.getD_eq_getElem?_getD, List.getElem?_append_right (Nat.le_refl _), Nat.sub_self]
      rfl)
  have HLN : Hid ((l ++ [(⟨77, 0, 0⟩ : P3)]).length = l.length + 1) := hide (by simp)
  have HOP : Hid (∀ (w' : World) (B : Nat) (v : Value), w'.ownsRow B 24 3 v (l.length + 1) (pcsCells l ++ [.int .i64 77, .int .i64 0, .int .i64 0]) → ∃ g cap, v = .slice (some ⟨g, 0, none⟩) (l.length + 1) cap ∧ B ≤ g ∧ g < w'.heap.size ∧ l.length + 1 ≤ cap ∧ PcsAt w' (some ⟨g, 0, none⟩) l ∧ w'.cell? ⟨g, l.length * 3, none⟩ = some (.int .i64 77)) := hide (fun w' B v h => by
    have h2 : w'.ownsRow B 24 3 v (l ++ [(⟨77, 0, 0⟩ : P3)]).length (pcsCells (l ++ [(⟨77, 0, 0⟩ : P3)])) := by rw [HLN.out, HLC.out]; exact h
    obtain ⟨g, cap, e, h3, h4, h5, h6⟩ := own_pcs h2 (by simp)
    rw [HLN.out] at e h5
    obtain ⟨h7, b, off, e2, h8⟩ := HAP.out w' _ h6
    injection e2 with e2
    injection e2 with e3 e4
    subst e3 e4
    rw [Nat.zero_add] at h8
    exact ⟨g, cap, e, h3, h4, h5, h7, h8⟩)
  exact tells_core r.y r.a r.p r.w now later at0 a c l.length l w (ordE l) _ (goesN r now l) (mayE r now l) (whyN r now at0 l) (whyE r now at0 l) (nextT r now l) (nextB r now l) (chkE r) (chkB r) (inB now 9007199254740992) (pcsCells l)
    ⟨rfl, hp, hnil, HGO.out, HWH.out, HNX.out, HBY.out, HOR.out, HRO.out, HCK.out, HRC.out, HNW.out, HRB.out, HRN.out, HRG.out, HRW.out, HE02.out, HM0.out, HM2.out, HBAD.out, HOUT.out, HIN.out, HXZ.out, HCE.out, HLL.out, HL1.out, HSR.out, HOP.out⟩ h60

theorem tells_walk (r : R4) (now later at0 : Int) (a : Option Addr) (c : Nat) (l : List P3) (w : World) (hn : l.length ≤ 9223372036854775807) (hcap : l.length ≤ c) (hnil : a = none → l.length = 0 ∧ c = 0) (hp : PcsAt w a l) (_hat : -9223372036854775808 ≤ at0 ∧ at0 ≤ 9223372036854775807) :
    Calls Try.prog 6 #[.agg (caseV r now later at0 a l.length c)] w fun e w' => e = .returned (.bool true) ∧ Below w.heap.size w w' := by
  by_cases h60 : 60 < l.length
  · exact tells_big r now later at0 a c l w h60
  · exact tells_small r now later at0 a c l w hcap hnil hp (by omega)
end Go.Proofs.Ytjgdegkjkedfcaa
