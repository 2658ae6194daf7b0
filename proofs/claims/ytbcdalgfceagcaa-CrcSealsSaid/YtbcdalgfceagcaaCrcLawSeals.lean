/- CrcSeals: any bytes sealed, any opened; where any two differ. -/
import Derived.Test.YtbcdalgfceagcaaCrcBurst2
import Derived.Test.YtbcdalgfceagcaaFill
import Derived.Test.YtbcdalgfceagcaaCrcWorks
namespace Go.Proofs.Ytbcdalgfceagcaa
open Go.RowKit

def okL (l : List Nat) : Bool := decide (l.drop (l.length - 4) = behL (sumL (l.take (l.length - 4))))
def openE (l : List Nat) : Int := if l.length < 4 then 120 else if okL l then 0 else 121
def openL (l : List Nat) : List Nat := if l.length < 4 then [] else if okL l then l.take (l.length - 4) else []
theorem nil_at (w : World) (a : Option Addr) : BytesAt w a [] := fun j hj => by simp at hj

theorem Open_all (a : Option Addr) (c : Nat) (l : List Nat) (w : World) (hn : l.length ≤ 1000000) (hc : l.length ≤ c) (hl : ∀ c ∈ l, c < 256) (hb : BytesAt w a l) :
    Calls Try.prog 12 #[.slice a l.length c] w fun e w' => ∃ ao cap, e = .returned (.tuple #[.slice ao (openL l).length cap, .int .i64 (openE l)]) ∧ BytesAt w' ao (openL l) ∧ Below w.heap.size w w' := by
  by_cases h4 : l.length < 4
  · refine (Open_short a c l w h4).mono ?_
    rintro e w' ⟨rfl, rfl⟩
    refine ⟨none, 0, ?_, ?_, Below.refl _ _⟩
    · unfold openL openE; rw [if_pos h4, if_pos h4]; rfl
    · unfold openL; rw [if_pos h4]; exact nil_at _ _
  · obtain ⟨b, off, rfl, _⟩ := hb 0 (by omega)
    obtain ⟨n, hN⟩ : ∃ n, l.length = n + 4 := ⟨l.length - 4, by omega⟩
    have hn4 : l.length - 4 = n := by omega
    have h := Open_four b off c n l w hN (by omega) hc hl hb
    rw [← hN] at h
    refine h.mono ?_
    rintro e w' ⟨h1, h2, hB⟩
    by_cases hv : l.drop n = behL (sumL (l.take n))
    · obtain ⟨v, rfl, hv2⟩ := h1 hv
      obtain ⟨ao, cap, rfl, _, _, hb2, _⟩ := hv2.any
      have hok : okL l = true := by unfold okL; rw [hn4]; exact decide_eq_true hv
      refine ⟨ao, cap, ?_, ?_, hB⟩
      · unfold openL openE; rw [if_neg h4, if_neg h4, if_pos hok, if_pos hok, hn4]
      · unfold openL; rw [if_neg h4, if_pos hok, hn4]; exact hb2
    · obtain rfl := h2 hv
      have hok : ¬ okL l = true := by unfold okL; rw [hn4]; simpa using hv
      refine ⟨none, 0, ?_, ?_, hB⟩
      · unfold openL openE; rw [if_neg h4, if_neg h4, if_neg hok, if_neg hok]; rfl
      · unfold openL; rw [if_neg h4, if_neg hok]; exact nil_at _ _
theorem refOpen_all (a : Option Addr) (c : Nat) (l : List Nat) (w : World) (hn : l.length ≤ 1000000) (hc : l.length ≤ c) (hl : ∀ c ∈ l, c < 256) (hb : BytesAt w a l) :
    Calls Try.prog 26 #[.slice a l.length c] w fun e w' => ∃ ao cap, e = .returned (.tuple #[.slice ao (openL l).length cap, .int .i64 (openE l)]) ∧ BytesAt w' ao (openL l) ∧ w = w' := by
  by_cases h4 : l.length < 4
  · refine (refOpen_short a c l w h4).mono ?_
    rintro e w' ⟨rfl, rfl⟩
    refine ⟨none, 0, ?_, ?_, rfl⟩
    · unfold openL openE; rw [if_pos h4, if_pos h4]; rfl
    · unfold openL; rw [if_pos h4]; exact nil_at _ _
  · obtain ⟨b, off, rfl, _⟩ := hb 0 (by omega)
    obtain ⟨n, hN⟩ : ∃ n, l.length = n + 4 := ⟨l.length - 4, by omega⟩
    have hn4 : l.length - 4 = n := by omega
    have h := refOpen_four b off c n l w hN (by omega) hc hl hb
    rw [← hN] at h
    refine h.mono ?_
    rintro e w' ⟨h1, h2, rfl⟩
    by_cases hv : l.drop n = behL (sumL (l.take n))
    · obtain rfl := h1 hv
      have hok : okL l = true := by unfold okL; rw [hn4]; exact decide_eq_true hv
      have hln : (l.take n).length = n := by simp; omega
      refine ⟨some ⟨b, off, none⟩, c, ?_, ?_, rfl⟩
      · unfold openL openE; rw [if_neg h4, if_neg h4, if_pos hok, if_pos hok, hn4, hln]
      · unfold openL; rw [if_neg h4, if_pos hok, hn4]; exact hb.take n (by omega)
    · obtain rfl := h2 hv
      have hok : ¬ okL l = true := by unfold okL; rw [hn4]; simpa using hv
      refine ⟨none, 0, ?_, ?_, rfl⟩
      · unfold openL openE; rw [if_neg h4, if_neg h4, if_neg hok, if_neg hok]; rfl
      · unfold openL; rw [if_neg h4, if_neg hok]; exact nil_at _ _
def bAll (a b : List Nat) : Nat × Nat × Bool := if a.length = b.length then bst a b (8 * a.length) else (0, 0, false)
theorem burst_all (x1 x2 : Option Addr) (c1 c2 : Nat) (a b : List Nat) (w : World) (hn : a.length ≤ 1000000) (ta : ∀ c ∈ a, c < 256) (tb : ∀ c ∈ b, c < 256) (ha : BytesAt w x1 a) (hb : BytesAt w x2 b) :
    Calls Try.prog 27 #[.slice x1 a.length c1, .slice x2 b.length c2] w fun e w' => e = .returned (.tuple #[.int .i64 ((bAll a b).1 : Nat), .int .i64 ((bAll a b).2.1 : Nat), .bool (bAll a b).2.2]) ∧ Below w.heap.size w w' := by
  unfold bAll
  by_cases h : a.length = b.length
  · rw [if_pos h]
    have := burst_ok x1 x2 c1 c2 a b w hn h.symm ta tb ha hb
    rwa [← h]
  · rw [if_neg h]
    refine (burst_ne x1 x2 a.length b.length c1 c2 w h).mono ?_
    rintro e w' ⟨rfl, rfl⟩
    exact ⟨rfl, Below.refl _ _⟩
theorem refBurst_all (x1 x2 : Option Addr) (c1 c2 : Nat) (a b : List Nat) (w : World) (hn : a.length ≤ 1000000) (ha : BytesAt w x1 a) (hb : BytesAt w x2 b) :
    Calls Try.prog 28 #[.slice x1 a.length c1, .slice x2 b.length c2] w fun e w' => e = .returned (.tuple #[.int .i64 ((bAll a b).1 : Nat), .int .i64 ((bAll a b).2.1 : Nat), .bool (bAll a b).2.2]) ∧ w = w' := by
  unfold bAll
  by_cases h : a.length = b.length
  · rw [if_pos h]
    have := refBurst_ok x1 x2 c1 c2 a b w hn h.symm ha hb
    rwa [← h]
  · rw [if_neg h]
    refine (refBurst_ne x1 x2 a.length b.length c1 c2 w h).mono ?_
    rintro e w' ⟨rfl, rfl⟩
    exact ⟨rfl, rfl⟩

set_option maxHeartbeats 6400000 in
set_option maxRecDepth 100000 in
theorem seals_walk (x1 x2 : Option Addr) (c1 c2 : Nat) (a b : List Nat) (w : World) (hn1 : a.length ≤ 9223372036854775807) (hc2 : b.length ≤ c2) (z1 : x1 = none → a.length = 0 ∧ c1 = 0)
    (ta : ∀ c ∈ a, c < 256) (tb : ∀ c ∈ b, c < 256) (ha : BytesAt w x1 a) (hb : BytesAt w x2 b) :
    Calls Try.prog 8 #[.slice x1 a.length c1, .slice x2 b.length c2] w fun e w' => e = .returned (.bool true) ∧ Below w.heap.size w w' := by
  by_cases h1 : 20000 < a.length
  · have d1 : decide ((20000 : Int) < (a.length : Int)) = true := decide_eq_true (by omega)
    have d1' : decide (20000 < a.length) = true := decide_eq_true h1
    clear h1 ha hb ta tb z1 hn1 hc2
    generalize a.length = n1 at *
    generalize b.length = n2 at *
    go_enter Try.func8, Try.ntmps8
    go_wp2_with fail
    refine (works_ok _).mono ?_
    rintro e w' ⟨rfl, hB⟩
    go_wp2
    go_ret
    exact ⟨rfl, hB⟩
  · have d1 : decide ((20000 : Int) < (a.length : Int)) = false := decide_eq_false (by omega)
    have d1' : decide (20000 < a.length) = false := decide_eq_false h1
    by_cases h2 : 20000 < b.length
    · have d2 : decide ((20000 : Int) < (b.length : Int)) = true := decide_eq_true (by omega)
      have d2' : decide (20000 < b.length) = true := decide_eq_true h2
      clear h1 h2 ha hb ta tb z1 hn1 hc2
      generalize a.length = n1 at *
      generalize b.length = n2 at *
      go_enter Try.func8, Try.ntmps8
      go_wp2_with fail
      refine (works_ok _).mono ?_
      rintro e w' ⟨rfl, hB⟩
      go_wp2
      go_ret
      exact ⟨rfl, hB⟩
    · have d2 : decide ((20000 : Int) < (b.length : Int)) = false := decide_eq_false (by omega)
      have d2' : decide (20000 < b.length) = false := decide_eq_false h2
      have K1 := hide (fun (w' : World) (hB : Below w.heap.size w w') => Seal_ok x1 c1 a w' (by omega) ta (ha.below hB (Nat.le_refl _)))
      have K2 := hide (fun (w' : World) (hB : Below w.heap.size w w') => Open_all x2 c2 b w' (by omega) hc2 tb (hb.below hB (Nat.le_refl _)))
      have K3 := hide (fun (w' : World) (hB : Below w.heap.size w w') => refOpen_all x2 c2 b w' (by omega) hc2 tb (hb.below hB (Nat.le_refl _)))
      have K4 := hide (fun (w' : World) (hB : Below w.heap.size w w') => burst_all x1 x2 c1 c2 a b w' (by omega) ta tb (ha.below hB (Nat.le_refl _)) (hb.below hB (Nat.le_refl _)))
      have K5 := hide (fun (w' : World) (hB : Below w.heap.size w w') => refBurst_all x1 x2 c1 c2 a b w' (by omega) (ha.below hB (Nat.le_refl _)) (hb.below hB (Nat.le_refl _)))
      have K6 := hide (fun (w' : World) (hB : Below w.heap.size w w') => refSeal_ok x1 c1 a w' (by omega) z1 ta (ha.below hB (Nat.le_refl _)))
      have HSL := hide (sealL_length a)
      clear ha hb ta tb z1 hc2 h1 h2 hn1
      generalize sealL a = S at *
      generalize bAll a b = st at *
      obtain ⟨s1, s2, s3⟩ := st
      generalize openL b = O at *
      generalize openE b = E at *
      generalize a.length = n1 at *
      generalize b.length = n2 at *
      dsimp only at K4 K5
      go_enter Try.func8, Try.ntmps8
      go_wp2_with fail
      refine (K1.out w (Below.refl _ _)).mono ?_
      rintro e w1 ⟨v1, rfl, hv1, hB⟩
      obtain ⟨a1, p1, rfl, _, _, hb1, _⟩ := hv1.any
      have HB1 := hide hB
      have C1 := hide (fun (w' : World) (hB : Below w1.heap.size w1 w') => conv_ok (hb1.below hB (Nat.le_refl _)) p1)
      clear hv1 hb1 hB
      generalize hSn : S.length = m at *
      have HSn := hide hSn
      clear hSn
      go_wp2_with fail
      refine (K2.out w1 HB1.out).mono ?_
      rintro e w2 ⟨a2, p2, rfl, hb2, hB⟩
      have HB2 := hide hB
      have C2 := hide (fun (w' : World) (hB : Below w2.heap.size w2 w') => conv_ok (hb2.below hB (Nat.le_refl _)) p2)
      have HA2 := hide (HB1.out.trans (hB.mono HB1.out.size))
      clear hb2 hB
      go_wp2_with fail
      refine (K3.out w2 HA2.out).mono ?_
      rintro e w' ⟨a3, p3, rfl, hb3, rfl⟩
      have C3 := hide (fun (w' : World) (hB : Below w2.heap.size w2 w') => conv_ok (hb3.below hB (Nat.le_refl _)) p3)
      clear hb3
      go_wp2_with fail
      refine (K4.out w2 HA2.out).mono ?_
      rintro e w3 ⟨rfl, hB⟩
      have HB3 := hide hB
      have HA3 := hide (HA2.out.trans (hB.mono HA2.out.size))
      clear hB
      go_wp2_with fail
      refine (K5.out w3 HA3.out).mono ?_
      rintro e w' ⟨rfl, rfl⟩
      have hq1 : ((strL S).toList == (strL S).toList) = true := by simp
      have hq2 : ((strL O).toList == (strL O).toList) = true := by simp
      have hq3 : ((s1 : Int) == (s1 : Int)) = true := by simp
      have hq4 : ((s2 : Int) == (s2 : Int)) = true := by simp
      have hq5 : (E == E) = true := by simp
      have hq6 : (s3 == s3) = true := by simp
      have HD := hide (belowDrew HB3.out)
      have hcA := C1.out w3.drew ((HB2.out.trans (HD.out.mono HB2.out.size)))
      generalize hsS : strL S = sS at *
      have HsS := hide hsS
      clear hsS
      generalize strL O = sO at *
      clear K1 K2 K3 K4 K5
      have HW3 := hide (fun (w' : World) (hB : Below w3.drew.heap.size w3.drew w') => (show Below w3.heap.size w3 w' from ⟨hB.os, hB.tape, hB.output, hB.size, hB.block⟩))
      have CC1 := hide (fun (w' : World) (hB : Below w3.drew.heap.size w3.drew w') => C1.out w' ((HB2.out.trans (HB3.out.mono HB2.out.size)).trans ((HW3.out w' hB).mono (Nat.le_trans HB2.out.size HB3.out.size))))
      have CC2 := hide (fun (w' : World) (hB : Below w3.drew.heap.size w3.drew w') => C2.out w' (HB3.out.trans ((HW3.out w' hB).mono HB3.out.size)))
      have CC3 := hide (fun (w' : World) (hB : Below w3.drew.heap.size w3.drew w') => C3.out w' (HB3.out.trans ((HW3.out w' hB).mono HB3.out.size)))
      have CK6 := hide (fun (w' : World) (hB : Below w3.drew.heap.size w3.drew w') => K6.out w' (HA3.out.trans ((HW3.out w' hB).mono HA3.out.size)))
      clear C1 C2 C3 K6 hcA HD
      go_wp2_with fail
      refine wp_region_fill [(0, 51), (1, 52), (2, 53), (3, 54), (4, 55), (5, 56), (6, 57), (7, 58), (8, 59), (9, 60), (10, 61), (11, 62), (12, 63), (13, 64), (14, 65), (15, 66), (16, 67), (17, 68), (18, 69), (19, 70), (20, 71), (21, 72), (22, 73), (23, 74), (24, 75), (25, 76), (26, 77), (27, 78), (28, 79), (29, 80), (30, 81), (31, 82), (32, 83), (33, 84), (34, 85), (35, 86), (36, 87), (37, 4)]
        (fun q x w' => match q with
          | 0 => x = .slice a1 m p1
          | 1 => x = .string sS
          | 2 => x = .slice x1 n1 c1
          | 3 => ∃ a9 p9, x = .slice a9 S.length p9 ∧ BytesAt w' a9 S
          | 4 => x = .string sS
          | 5 => x = .bool true
          | 6 => x = .bool true
          | 7 => x = .slice a2 O.length p2
          | 8 => x = .string sO
          | 9 => x = .slice a3 O.length p3
          | 10 => x = .string sO
          | 11 => x = .bool true
          | 12 => x = .bool true
          | 13 => x = .bool true
          | 14 => x = .int .i64 E
          | 15 => x = .int .i64 E
          | 16 => x = .int .i64 E
          | 17 => x = .bool true
          | 18 => x = .bool true
          | 19 => x = .bool true
          | 20 => x = .int .i64 (s1 : Nat)
          | 21 => x = .int .i64 (s1 : Nat)
          | 22 => x = .bool true
          | 23 => x = .bool true
          | 24 => x = .bool true
          | 25 => x = .int .i64 (s2 : Nat)
          | 26 => x = .int .i64 (s2 : Nat)
          | 27 => x = .bool true
          | 28 => x = .bool true
          | 29 => x = .bool true
          | 30 => x = .bool s3
          | 31 => x = .bool s3
          | 32 => x = .bool true
          | 33 => x = .bool true
          | 34 => x = .bool true
          | 35 => x = .bool true
          | 36 => x = .bool true
          | 37 => x = .bool true
          | _ => True) (by kernel_rfl) (by kernel_rfl) (by kernel_rfl) (by kernel_rfl) (by decide) ?_ ?_ ?_
      · intro q x w' w'' hB h
        revert h
        split <;> intro h <;> first | exact h | (obtain ⟨a9, p9, h1, h2⟩ := h; exact ⟨a9, p9, h1, h2.below hB (Nat.le_refl _)⟩)
      · simp only [FillAll]
        refine ⟨?_, ?_, ?_, ?_, ?_, ?_, ?_, ?_, ?_, ?_, ?_, ?_, ?_, ?_, ?_, ?_, ?_, ?_, ?_, ?_, ?_, ?_, ?_, ?_, ?_, ?_, ?_, ?_, ?_, ?_, ?_, ?_, ?_, ?_, ?_, ?_, ?_, ?_, trivial⟩
        · intro v w' hB hdep K' hK
          simp only [fillAct, Act.put, List.setIfInBounds_toArray, List.set_cons_zero, List.set_cons_succ] at hK ⊢
          rw [if_pos (by rfl)]
          go_simp
          exact hK.out _ _ (Below.refl _ _) rfl
        · intro v w' hB hdep K' hK
          have h0 : v 0 = .slice a1 m p1 := hdep ⟨0, .data⟩ (by simp) rfl
          have hcv := CC1.out w' hB
          simp only [fillAct, Act.put, List.setIfInBounds_toArray, List.set_cons_zero, List.set_cons_succ, h0] at hK ⊢
          rw [if_pos (by rfl)]
          go_simp
          exact hK.out _ _ (Below.refl _ _) rfl
        · intro v w' hB hdep K' hK
          simp only [fillAct, Act.put, List.setIfInBounds_toArray, List.set_cons_zero, List.set_cons_succ] at hK ⊢
          rw [if_pos (by rfl)]
          go_simp
          exact hK.out _ _ (Below.refl _ _) rfl
        · intro v w' hB hdep K' hK
          have h2 : v 2 = .slice x1 n1 c1 := hdep ⟨2, .data⟩ (by simp) rfl
          simp only [fillAct, Act.put, List.setIfInBounds_toArray, List.set_cons_zero, List.set_cons_succ, h2] at hK ⊢
          rw [if_pos (by rfl)]
          go_simp
          refine (CK6.out w' hB).mono ?_
          rintro e w9 ⟨v9, rfl, hv9, hB9⟩
          obtain ⟨a9, p9, rfl, _, _, hb9, _⟩ := hv9.any
          exact hK.out _ _ hB9 ⟨a9, p9, rfl, hb9⟩
        · intro v w' hB hdep K' hK
          have hd3 : ∃ a9 p9, v 3 = .slice a9 S.length p9 ∧ BytesAt w' a9 S := hdep ⟨3, .data⟩ (by simp) rfl
          simp only [fillAct, Act.put, List.setIfInBounds_toArray, List.set_cons_zero, List.set_cons_succ] at hK ⊢
          rw [if_pos (by rfl)]
          obtain ⟨a9, p9, h3, hb9⟩ := hd3
          have hcv := conv_ok hb9 p9
          rw [HsS.out] at hcv
          simp only [h3] at hK ⊢
          go_simp
          exact hK.out _ _ (Below.refl _ _) rfl
        · intro v w' hB hdep K' hK
          have h1 : v 1 = .string sS := hdep ⟨1, .data⟩ (by simp) rfl
          have h4 : v 4 = .string sS := hdep ⟨4, .data⟩ (by simp) rfl
          simp only [fillAct, Act.put, List.setIfInBounds_toArray, List.set_cons_zero, List.set_cons_succ, h1, h4] at hK ⊢
          rw [if_pos (by rfl)]
          go_simp
          exact hK.out _ _ (Below.refl _ _) rfl
        · intro v w' hB hdep K' hK
          have h5 : v 5 = .bool true := hdep ⟨5, .data⟩ (by simp) rfl
          simp only [fillAct, Act.put, List.setIfInBounds_toArray, List.set_cons_zero, List.set_cons_succ, h5] at hK ⊢
          rw [if_pos (by rfl)]
          go_simp
          exact hK.out _ _ (Below.refl _ _) rfl
        · intro v w' hB hdep K' hK
          have h6 : v 6 = .bool true := hdep ⟨6, .guard⟩ (by simp) rfl
          simp only [fillAct, Act.put, List.setIfInBounds_toArray, List.set_cons_zero, List.set_cons_succ, h6] at hK ⊢
          rw [if_pos (by rfl)]
          go_simp
          exact hK.out _ _ (Below.refl _ _) rfl
        · intro v w' hB hdep K' hK
          have h7 : v 7 = .slice a2 O.length p2 := hdep ⟨7, .data⟩ (by simp) rfl
          have h6 : v 6 = .bool true := hdep ⟨6, .guard⟩ (by simp) rfl
          have hcv := CC2.out w' hB
          simp only [fillAct, Act.put, List.setIfInBounds_toArray, List.set_cons_zero, List.set_cons_succ, h7, h6] at hK ⊢
          rw [if_pos (by rfl)]
          go_simp
          exact hK.out _ _ (Below.refl _ _) rfl
        · intro v w' hB hdep K' hK
          have h6 : v 6 = .bool true := hdep ⟨6, .guard⟩ (by simp) rfl
          simp only [fillAct, Act.put, List.setIfInBounds_toArray, List.set_cons_zero, List.set_cons_succ, h6] at hK ⊢
          rw [if_pos (by rfl)]
          go_simp
          exact hK.out _ _ (Below.refl _ _) rfl
        · intro v w' hB hdep K' hK
          have h9 : v 9 = .slice a3 O.length p3 := hdep ⟨9, .data⟩ (by simp) rfl
          have h6 : v 6 = .bool true := hdep ⟨6, .guard⟩ (by simp) rfl
          have hcv := CC3.out w' hB
          simp only [fillAct, Act.put, List.setIfInBounds_toArray, List.set_cons_zero, List.set_cons_succ, h9, h6] at hK ⊢
          rw [if_pos (by rfl)]
          go_simp
          exact hK.out _ _ (Below.refl _ _) rfl
        · intro v w' hB hdep K' hK
          have h8 : v 8 = .string sO := hdep ⟨8, .data⟩ (by simp) rfl
          have h10 : v 10 = .string sO := hdep ⟨10, .data⟩ (by simp) rfl
          have h6 : v 6 = .bool true := hdep ⟨6, .guard⟩ (by simp) rfl
          simp only [fillAct, Act.put, List.setIfInBounds_toArray, List.set_cons_zero, List.set_cons_succ, h8, h10, h6] at hK ⊢
          rw [if_pos (by rfl)]
          go_simp
          exact hK.out _ _ (Below.refl _ _) rfl
        · intro v w' hB hdep K' hK
          have h6 : v 6 = .bool true := hdep ⟨6, .data⟩ (by simp) rfl
          have h11 : v 11 = .bool true := hdep ⟨11, .data⟩ (by simp) rfl
          simp only [fillAct, Act.put, List.setIfInBounds_toArray, List.set_cons_zero, List.set_cons_succ, h6, h11] at hK ⊢
          rw [if_pos (by rfl)]
          go_simp
          exact hK.out _ _ (Below.refl _ _) rfl
        · intro v w' hB hdep K' hK
          have h12 : v 12 = .bool true := hdep ⟨12, .data⟩ (by simp) rfl
          simp only [fillAct, Act.put, List.setIfInBounds_toArray, List.set_cons_zero, List.set_cons_succ, h12] at hK ⊢
          rw [if_pos (by rfl)]
          go_simp
          exact hK.out _ _ (Below.refl _ _) rfl
        · intro v w' hB hdep K' hK
          have h13 : v 13 = .bool true := hdep ⟨13, .guard⟩ (by simp) rfl
          simp only [fillAct, Act.put, List.setIfInBounds_toArray, List.set_cons_zero, List.set_cons_succ, h13] at hK ⊢
          rw [if_pos (by rfl)]
          go_simp
          exact hK.out _ _ (Below.refl _ _) rfl
        · intro v w' hB hdep K' hK
          have h14 : v 14 = .int .i64 E := hdep ⟨14, .data⟩ (by simp) rfl
          have h13 : v 13 = .bool true := hdep ⟨13, .guard⟩ (by simp) rfl
          simp only [fillAct, Act.put, List.setIfInBounds_toArray, List.set_cons_zero, List.set_cons_succ, h14, h13] at hK ⊢
          rw [if_pos (by rfl)]
          go_simp
          refine (num_ok E w').mono ?_
          rintro e w9 ⟨rfl, rfl⟩
          exact hK.out _ _ (Below.refl _ _) rfl
        · intro v w' hB hdep K' hK
          have h13 : v 13 = .bool true := hdep ⟨13, .guard⟩ (by simp) rfl
          simp only [fillAct, Act.put, List.setIfInBounds_toArray, List.set_cons_zero, List.set_cons_succ, h13] at hK ⊢
          rw [if_pos (by rfl)]
          go_simp
          exact hK.out _ _ (Below.refl _ _) rfl
        · intro v w' hB hdep K' hK
          have h15 : v 15 = .int .i64 E := hdep ⟨15, .data⟩ (by simp) rfl
          have h16 : v 16 = .int .i64 E := hdep ⟨16, .data⟩ (by simp) rfl
          have h13 : v 13 = .bool true := hdep ⟨13, .guard⟩ (by simp) rfl
          simp only [fillAct, Act.put, List.setIfInBounds_toArray, List.set_cons_zero, List.set_cons_succ, h15, h16, h13] at hK ⊢
          rw [if_pos (by rfl)]
          go_simp
          exact hK.out _ _ (Below.refl _ _) rfl
        · intro v w' hB hdep K' hK
          have h13 : v 13 = .bool true := hdep ⟨13, .data⟩ (by simp) rfl
          have h17 : v 17 = .bool true := hdep ⟨17, .data⟩ (by simp) rfl
          simp only [fillAct, Act.put, List.setIfInBounds_toArray, List.set_cons_zero, List.set_cons_succ, h13, h17] at hK ⊢
          rw [if_pos (by rfl)]
          go_simp
          exact hK.out _ _ (Below.refl _ _) rfl
        · intro v w' hB hdep K' hK
          have h18 : v 18 = .bool true := hdep ⟨18, .data⟩ (by simp) rfl
          simp only [fillAct, Act.put, List.setIfInBounds_toArray, List.set_cons_zero, List.set_cons_succ, h18] at hK ⊢
          rw [if_pos (by rfl)]
          go_simp
          exact hK.out _ _ (Below.refl _ _) rfl
        · intro v w' hB hdep K' hK
          have h19 : v 19 = .bool true := hdep ⟨19, .guard⟩ (by simp) rfl
          simp only [fillAct, Act.put, List.setIfInBounds_toArray, List.set_cons_zero, List.set_cons_succ, h19] at hK ⊢
          rw [if_pos (by rfl)]
          go_simp
          exact hK.out _ _ (Below.refl _ _) rfl
        · intro v w' hB hdep K' hK
          have h19 : v 19 = .bool true := hdep ⟨19, .guard⟩ (by simp) rfl
          simp only [fillAct, Act.put, List.setIfInBounds_toArray, List.set_cons_zero, List.set_cons_succ, h19] at hK ⊢
          rw [if_pos (by rfl)]
          go_simp
          exact hK.out _ _ (Below.refl _ _) rfl
        · intro v w' hB hdep K' hK
          have h20 : v 20 = .int .i64 (s1 : Nat) := hdep ⟨20, .data⟩ (by simp) rfl
          have h21 : v 21 = .int .i64 (s1 : Nat) := hdep ⟨21, .data⟩ (by simp) rfl
          have h19 : v 19 = .bool true := hdep ⟨19, .guard⟩ (by simp) rfl
          simp only [fillAct, Act.put, List.setIfInBounds_toArray, List.set_cons_zero, List.set_cons_succ, h20, h21, h19] at hK ⊢
          rw [if_pos (by rfl)]
          go_simp
          exact hK.out _ _ (Below.refl _ _) rfl
        · intro v w' hB hdep K' hK
          have h19 : v 19 = .bool true := hdep ⟨19, .data⟩ (by simp) rfl
          have h22 : v 22 = .bool true := hdep ⟨22, .data⟩ (by simp) rfl
          simp only [fillAct, Act.put, List.setIfInBounds_toArray, List.set_cons_zero, List.set_cons_succ, h19, h22] at hK ⊢
          rw [if_pos (by rfl)]
          go_simp
          exact hK.out _ _ (Below.refl _ _) rfl
        · intro v w' hB hdep K' hK
          have h23 : v 23 = .bool true := hdep ⟨23, .data⟩ (by simp) rfl
          simp only [fillAct, Act.put, List.setIfInBounds_toArray, List.set_cons_zero, List.set_cons_succ, h23] at hK ⊢
          rw [if_pos (by rfl)]
          go_simp
          exact hK.out _ _ (Below.refl _ _) rfl
        · intro v w' hB hdep K' hK
          have h24 : v 24 = .bool true := hdep ⟨24, .guard⟩ (by simp) rfl
          simp only [fillAct, Act.put, List.setIfInBounds_toArray, List.set_cons_zero, List.set_cons_succ, h24] at hK ⊢
          rw [if_pos (by rfl)]
          go_simp
          exact hK.out _ _ (Below.refl _ _) rfl
        · intro v w' hB hdep K' hK
          have h24 : v 24 = .bool true := hdep ⟨24, .guard⟩ (by simp) rfl
          simp only [fillAct, Act.put, List.setIfInBounds_toArray, List.set_cons_zero, List.set_cons_succ, h24] at hK ⊢
          rw [if_pos (by rfl)]
          go_simp
          exact hK.out _ _ (Below.refl _ _) rfl
        · intro v w' hB hdep K' hK
          have h25 : v 25 = .int .i64 (s2 : Nat) := hdep ⟨25, .data⟩ (by simp) rfl
          have h26 : v 26 = .int .i64 (s2 : Nat) := hdep ⟨26, .data⟩ (by simp) rfl
          have h24 : v 24 = .bool true := hdep ⟨24, .guard⟩ (by simp) rfl
          simp only [fillAct, Act.put, List.setIfInBounds_toArray, List.set_cons_zero, List.set_cons_succ, h25, h26, h24] at hK ⊢
          rw [if_pos (by rfl)]
          go_simp
          exact hK.out _ _ (Below.refl _ _) rfl
        · intro v w' hB hdep K' hK
          have h24 : v 24 = .bool true := hdep ⟨24, .data⟩ (by simp) rfl
          have h27 : v 27 = .bool true := hdep ⟨27, .data⟩ (by simp) rfl
          simp only [fillAct, Act.put, List.setIfInBounds_toArray, List.set_cons_zero, List.set_cons_succ, h24, h27] at hK ⊢
          rw [if_pos (by rfl)]
          go_simp
          exact hK.out _ _ (Below.refl _ _) rfl
        · intro v w' hB hdep K' hK
          have h28 : v 28 = .bool true := hdep ⟨28, .data⟩ (by simp) rfl
          simp only [fillAct, Act.put, List.setIfInBounds_toArray, List.set_cons_zero, List.set_cons_succ, h28] at hK ⊢
          rw [if_pos (by rfl)]
          go_simp
          exact hK.out _ _ (Below.refl _ _) rfl
        · intro v w' hB hdep K' hK
          have h29 : v 29 = .bool true := hdep ⟨29, .guard⟩ (by simp) rfl
          simp only [fillAct, Act.put, List.setIfInBounds_toArray, List.set_cons_zero, List.set_cons_succ, h29] at hK ⊢
          rw [if_pos (by rfl)]
          go_simp
          exact hK.out _ _ (Below.refl _ _) rfl
        · intro v w' hB hdep K' hK
          have h29 : v 29 = .bool true := hdep ⟨29, .guard⟩ (by simp) rfl
          simp only [fillAct, Act.put, List.setIfInBounds_toArray, List.set_cons_zero, List.set_cons_succ, h29] at hK ⊢
          rw [if_pos (by rfl)]
          go_simp
          exact hK.out _ _ (Below.refl _ _) rfl
        · intro v w' hB hdep K' hK
          have h30 : v 30 = .bool s3 := hdep ⟨30, .data⟩ (by simp) rfl
          have h31 : v 31 = .bool s3 := hdep ⟨31, .data⟩ (by simp) rfl
          have h29 : v 29 = .bool true := hdep ⟨29, .guard⟩ (by simp) rfl
          simp only [fillAct, Act.put, List.setIfInBounds_toArray, List.set_cons_zero, List.set_cons_succ, h30, h31, h29] at hK ⊢
          rw [if_pos (by rfl)]
          go_simp
          exact hK.out _ _ (Below.refl _ _) rfl
        · intro v w' hB hdep K' hK
          have h29 : v 29 = .bool true := hdep ⟨29, .data⟩ (by simp) rfl
          have h32 : v 32 = .bool true := hdep ⟨32, .data⟩ (by simp) rfl
          simp only [fillAct, Act.put, List.setIfInBounds_toArray, List.set_cons_zero, List.set_cons_succ, h29, h32] at hK ⊢
          rw [if_pos (by rfl)]
          go_simp
          exact hK.out _ _ (Below.refl _ _) rfl
        · intro v w' hB hdep K' hK
          have h33 : v 33 = .bool true := hdep ⟨33, .data⟩ (by simp) rfl
          simp only [fillAct, Act.put, List.setIfInBounds_toArray, List.set_cons_zero, List.set_cons_succ, h33] at hK ⊢
          rw [if_pos (by rfl)]
          go_simp
          exact hK.out _ _ (Below.refl _ _) rfl
        · intro v w' hB hdep K' hK
          have h34 : v 34 = .bool true := hdep ⟨34, .guard⟩ (by simp) rfl
          simp only [fillAct, Act.put, List.setIfInBounds_toArray, List.set_cons_zero, List.set_cons_succ, h34] at hK ⊢
          rw [if_pos (by rfl)]
          go_simp
          refine (works_ok w').mono ?_
          rintro e w9 ⟨rfl, hB9⟩
          exact hK.out _ _ hB9 rfl
        · intro v w' hB hdep K' hK
          have h34 : v 34 = .bool true := hdep ⟨34, .data⟩ (by simp) rfl
          have h35 : v 35 = .bool true := hdep ⟨35, .data⟩ (by simp) rfl
          simp only [fillAct, Act.put, List.setIfInBounds_toArray, List.set_cons_zero, List.set_cons_succ, h34, h35] at hK ⊢
          rw [if_pos (by rfl)]
          go_simp
          exact hK.out _ _ (Below.refl _ _) rfl
        · intro v w' hB hdep K' hK
          have h36 : v 36 = .bool true := hdep ⟨36, .data⟩ (by simp) rfl
          simp only [fillAct, Act.put, List.setIfInBounds_toArray, List.set_cons_zero, List.set_cons_succ, h36] at hK ⊢
          rw [if_pos (by rfl)]
          go_simp
          exact hK.out _ _ (Below.refl _ _) rfl
      · intro v w' hB hall
        have h37 : v 37 = .bool true := hall 37 (by decide)
        simp only [fillAct, Act.put, List.setIfInBounds_toArray, List.set_cons_zero, List.set_cons_succ, h37]
        have hBE := HA3.out.trans ((HW3.out w' hB).mono HA3.out.size)
        go_wp2
        go_ret
        exact ⟨rfl, hBE⟩
end Go.Proofs.Ytbcdalgfceagcaa
