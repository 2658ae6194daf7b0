/- Walks of the reference's Seal and Open. -/
import Derived.Test.YtbcdalgfceagcaaCrcPartsPlain
import Derived.Test.YtbcdalgfceagcaaCrcRef
namespace Go.Proofs.Ytbcdalgfceagcaa
open Go.RowKit

set_option maxHeartbeats 1600000 in
theorem refSeal_ok (a : Option Addr) (c : Nat) (l : List Nat) (w : World) (hn : l.length ≤ 1000000) (hz : a = none → l.length = 0 ∧ c = 0) (hl : ∀ c ∈ l, c < 256) (hb : BytesAt w a l) :
    Calls Try.prog 29 #[.slice a l.length c] w fun e w' => ∃ v, e = .returned v ∧ OwnBytes w' w.heap.size v (sealL l) ∧ Below w.heap.size w w' := by
  obtain ⟨i0, hi, hz0, hz1, hz2⟩ := info_parts Try.info5
  have HS := hide (refSum_ok a c l w (by omega) hl hb)
  have hs := sumL_lt l hl
  have hrow0 : (w.alloc (.cells #[] 5)).ownsRow w.heap.size 5 1 (.slice (some ⟨w.heap.size, 0, none⟩) 0 0) 0 [] := ⟨rfl, .inr ⟨w.heap.size, 0, #[], rfl, Nat.le_refl _, heap_alloc_new w _, by omega, by unfold maxLen; omega, rfl, rfl⟩⟩
  have HROW0 := hide hrow0
  have HB0 := hide ((Below.refl w.heap.size w).alloc (Nat.le_refl _) (.cells #[] 5))
  have hsrc : ∀ ad, a = some ad → ∀ j u, (rowF (byteV l) l.length)[j]? = some u → (w.alloc (.cells #[] 5)).cell? (ad.add j) = some u := CellsAt.src (hb.below HB0.out (Nat.le_refl _))
  have HSRC := hide hsrc
  have HNEWS := hide (show rowF (byteV (sealL l)) (sealL l).length = rowF (byteV l) l.length ++ rowF (byteV (behL (sumL l))) 4 by rw [sealL_length]; exact rowF_append l (behL (sumL l)))
  have HLEN := hide (sealL_length l)
  have hbl := hide (show (rowF (byteV (behL (sumL l))) 4).toArray = #[.int .u8 ((sumL l : Int) % 256), .int .u8 ((sumL l : Int) / 256 % 256), .int .u8 ((sumL l : Int) / 65536 % 256), .int .u8 ((sumL l : Int) / 16777216)] by
    rw [show 4 = (behL (sumL l)).length from rfl, rowF_bytes (behL (sumL l))]
    simp [behL])
  generalize sumL l = s at *
  generalize l.length = n at *
  clear hsrc hrow0 hb hl
  go_enter Try.func29, Try.ntmps29
  go_wp2_with fail
  refine HS.out.mono ?_
  rintro e w' ⟨rfl, rfl⟩
  have HNW := hide (fun (w1 : World) => World.news_of_block (heap_alloc_new w1 (.cells (rowF (byteV (behL s)) 4).toArray 5)))
  have HAL := hide (fun (w1 : World) (v : Value) (h : w1.ownsRow w.heap.size 5 1 v n (rowF (byteV l) n)) => h.alloc (.cells (rowF (byteV (behL s)) 4).toArray 5))
  have HBL := hide (fun (w1 : World) (h : Below w.heap.size w w1) => h.alloc h.size (.cells (rowF (byteV (behL s)) 4).toArray 5))
  rw [hbl.out] at HNW HAL HBL
  go_wp2_with (first
    | (at_builtin; refine wpList_append_src rfl (.tmp 6) (.tmp 7) 22 rfl w.heap.size 5 i0 (.int .u8 0) 1 1 Try.underlying22 hi hz0 hz1 hz2 rfl (by decide) (.slice (some ⟨w.heap.size, 0, none⟩) 0 0) 0 [] rfl HROW0.out a n c (rowF (byteV l) n) rfl (by simp) hz HSRC.out (rowF_one _ _ (byteV_one _)) (by unfold maxLen; omega) (by omega) (by simp) ?_; intro v1 w1 hown1 hgrow1; rw [Nat.zero_add, List.nil_append] at hown1; have HO1 := hide hown1; have HB1 := hide (below_own HB0.out HROW0.out (Nat.le_refl _) (by simp) hgrow1); clear hown1 hgrow1)
    | (at_builtin; refine wpList_append_own _ rfl (.tmp 8) (.tmp 23) 22 rfl w.heap.size 5 i0 (.int .u8 0) 1 1 Try.underlying22 hi hz0 hz1 hz2 rfl (by decide) _ n (rowF (byteV l) n) rfl (HAL.out w1 _ HO1.out) ⟨w1.heap.size, 0, none⟩ 4 4 (rowF (byteV (behL s)) 4) rfl (by simp) (HNW.out w1) (rowF_one _ _ (byteV_one _)) (by unfold maxLen; omega) (by omega) (HBL.out w1 HB1.out).size ?_; intro v4 w4 hown4 hgrow4 hnil4))
  go_ret
  exact ⟨_, rfl, by unfold OwnBytes; rw [HNEWS.out, HLEN.out]; exact hown4, below_own (HBL.out w1 HB1.out) (HAL.out w1 _ HO1.out) (Nat.le_refl _) (HBL.out w1 HB1.out).size hgrow4⟩

theorem refOpen_short (a : Option Addr) (c : Nat) (l : List Nat) (w : World) (hn : l.length < 4) :
    Calls Try.prog 26 #[.slice a l.length c] w fun e w' => e = .returned (.tuple #[.slice none 0 0, .int .i64 120]) ∧ w = w' := by
  generalize l.length = n at *
  have h1 : decide ((n : Int) - 4 < 0) = true := by simp; omega
  go_enter Try.func26, Try.ntmps26
  go_wp2
  go_ret2
  exact ⟨rfl, rfl⟩
theorem beh_eq (l : List Nat) (n s : Nat) (hn : l.length = n + 4) : l.drop n = behL s ↔ (l.getD n 0 = s % 256 ∧ l.getD (n + 1) 0 = s / 256 % 256 ∧ l.getD (n + 2) 0 = s / 65536 % 256 ∧ l.getD (n + 3) 0 = s / 16777216) := by
  have e : l.drop n = [l.getD n 0, l.getD (n + 1) 0, l.getD (n + 2) 0, l.getD (n + 3) 0] := by
    apply List.ext_getElem
    · simp; omega
    · intro j h1 h2
      simp at h2
      match j, h2 with
      | 0, _ => simp [List.getD_eq_getElem?_getD, hn]
      | 1, _ => simp [List.getD_eq_getElem?_getD, hn]
      | 2, _ => simp [List.getD_eq_getElem?_getD, hn]
      | 3, _ => simp [List.getD_eq_getElem?_getD, hn]
  rw [e]
  simp [behL]

set_option maxHeartbeats 1600000 in
theorem refOpen_four (b off : Nat) (c n : Nat) (l : List Nat) (w : World) (hn : l.length = n + 4) (hm : n ≤ 1000000) (hc : l.length ≤ c) (hl : ∀ c ∈ l, c < 256) (hb : BytesAt w (some ⟨b, off, none⟩) l) :
    Calls Try.prog 26 #[.slice (some ⟨b, off, none⟩) (n + 4) c] w fun e w' => (l.drop n = behL (sumL (l.take n)) → e = .returned (.tuple #[.slice (some ⟨b, off, none⟩) n c, .int .i64 0])) ∧ (¬ l.drop n = behL (sumL (l.take n)) → e = .returned (.tuple #[.slice none 0 0, .int .i64 121])) ∧ w = w' := by
  have htl : (l.take n).length = n := by simp; omega
  have hlt : ∀ c ∈ l.take n, c < 256 := fun c hc => hl c (List.mem_of_mem_take hc)
  have hs := sumL_lt _ hlt
  have HS := hide (refSum_ok (some ⟨b, off, none⟩) c (l.take n) w (by omega) hlt (hb.take n (by omega)))
  rw [htl] at HS
  have hbe := beh_eq l n (sumL (l.take n)) hn
  have hcell : ∀ k, k < 4 → w.cell? ⟨b, off + (n + k), none⟩ = some (.int .u8 (l.getD (n + k) 0 : Nat)) := fun k hk => by
    obtain ⟨b2, off2, e, h1⟩ := hb (n + k) (by omega)
    injection e with e
    injection e with e1 e2
    subst e1 e2
    exact h1
  have c0 := hcell 0 (by omega)
  have c1 := hcell 1 (by omega)
  have c2 := hcell 2 (by omega)
  have c3 := hcell 3 (by omega)
  rw [Nat.add_zero] at c0
  clear hcell hb hl hlt htl
  generalize sumL (l.take n) = s at *
  obtain ⟨V, hV⟩ : ∃ V : Prop, V = (l.drop n = behL s) := ⟨_, rfl⟩
  rw [← hV]
  rw [← hV] at hbe
  clear hV
  generalize l.getD n 0 = x0 at *
  generalize l.getD (n + 1) 0 = x1 at *
  generalize l.getD (n + 2) 0 = x2 at *
  generalize l.getD (n + 3) 0 = x3 at *
  have hd : decide ((n : Int) < 0) = false := by simp
  have h1 : (n : Int) ≤ (c : Int) := by omega
  have h2 : (n : Int) ≤ (n : Int) + 4 := by omega
  have HBE := hide hbe
  clear hbe hn
  by_cases q0 : x0 = s % 256
  · have p0 : ((x0 : Int) != (s : Int) % 256) = false := by rw [bne_eq_false_iff_eq]; omega
    by_cases q1 : x1 = s / 256 % 256
    · have p1 : ((x1 : Int) != (s : Int) / 256 % 256) = false := by rw [bne_eq_false_iff_eq]; omega
      by_cases q2 : x2 = s / 65536 % 256
      · have p2 : ((x2 : Int) != (s : Int) / 65536 % 256) = false := by rw [bne_eq_false_iff_eq]; omega
        by_cases q3 : x3 = s / 16777216
        · have p3 : ((x3 : Int) != (s : Int) / 16777216) = false := by rw [bne_eq_false_iff_eq]; omega
          have HV : Hid V := hide (HBE.out.2 ⟨q0, q1, q2, q3⟩)
          clear q0 q1 q2 q3
          go_enter Try.func26, Try.ntmps26
          go_wp2_with fail
          refine HS.out.mono ?_
          rintro e w' ⟨rfl, rfl⟩
          go_wp2
          go_ret2
          exact ⟨fun _ => rfl, fun h => absurd HV.out h, rfl⟩
        · have p3 : ((x3 : Int) != (s : Int) / 16777216) = true := by rw [bne_iff_ne]; omega
          have HV : Hid (¬ V) := hide (fun h => q3 (HBE.out.1 h).2.2.2)
          clear q0 q1 q2 q3
          go_enter Try.func26, Try.ntmps26
          go_wp2_with fail
          refine HS.out.mono ?_
          rintro e w' ⟨rfl, rfl⟩
          go_wp2
          go_ret2
          exact ⟨fun h => absurd h HV.out, fun _ => rfl, rfl⟩
      · have p2 : ((x2 : Int) != (s : Int) / 65536 % 256) = true := by rw [bne_iff_ne]; omega
        have HV : Hid (¬ V) := hide (fun h => q2 (HBE.out.1 h).2.2.1)
        clear q0 q1 q2
        go_enter Try.func26, Try.ntmps26
        go_wp2_with fail
        refine HS.out.mono ?_
        rintro e w' ⟨rfl, rfl⟩
        go_wp2
        go_ret2
        exact ⟨fun h => absurd h HV.out, fun _ => rfl, rfl⟩
    · have p1 : ((x1 : Int) != (s : Int) / 256 % 256) = true := by rw [bne_iff_ne]; omega
      have HV : Hid (¬ V) := hide (fun h => q1 (HBE.out.1 h).2.1)
      clear q0 q1
      go_enter Try.func26, Try.ntmps26
      go_wp2_with fail
      refine HS.out.mono ?_
      rintro e w' ⟨rfl, rfl⟩
      go_wp2
      go_ret2
      exact ⟨fun h => absurd h HV.out, fun _ => rfl, rfl⟩
  · have p0 : ((x0 : Int) != (s : Int) % 256) = true := by rw [bne_iff_ne]; omega
    have HV : Hid (¬ V) := hide (fun h => q0 (HBE.out.1 h).1)
    clear q0
    go_enter Try.func26, Try.ntmps26
    go_wp2_with fail
    refine HS.out.mono ?_
    rintro e w' ⟨rfl, rfl⟩
    go_wp2
    go_ret2
    exact ⟨fun h => absurd h HV.out, fun _ => rfl, rfl⟩
end Go.Proofs.Ytbcdalgfceagcaa
