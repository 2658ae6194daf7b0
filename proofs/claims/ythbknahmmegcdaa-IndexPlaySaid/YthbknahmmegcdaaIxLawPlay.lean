/- IndexPlay: whatever is done to an index, it answers what the document says. -/
import Derived.Test.YthbknahmmegcdaaIxPlay
namespace Go.Proofs.Ythbknahmmegcdaa
open Go.RowKit Go.Shelf
set_option linter.unusedVariables false

theorem addL_len (st : Int) (l : List S2) (s : S2) : (addL st l s).length ≤ l.length + 1 := by
  unfold addL
  split
  · rw [List.length_append, List.length_singleton]; exact Nat.le_refl _
  · omega

set_option maxRecDepth 100000 in
set_option maxHeartbeats 8000000 in
theorem play_walk (st : Int) (a : Option Addr) (n c : Nat) (F : Nat → St4) (w : World) (hn : n ≤ 9223372036854775807) (hs : StepsAt w a n F) :
    Calls Try.prog 7 #[.int .i64 st, .slice a n c] w fun e w' => e = .returned (.bool true) ∧ Below w.heap.size w w' := by
  by_cases h3 : 300 < n
  · as_aux_lemma =>
      have d1 : decide ((300 : Int) < (n : Int)) = true := decide_eq_true (by omega)
      have d1' : decide (300 < n) = true := decide_eq_true h3
      clear hs hn h3
      go_enter Try.func7, Try.ntmps7
      go_wp2_with fail
      refine (known_ok w).mono ?_
      rintro e w1 ⟨rfl, hB⟩
      go_wp2_with fail
      go_ret
      exact ⟨rfl, hB⟩
  · have d1 : decide ((300 : Int) < (n : Int)) = false := decide_eq_false (by omega)
    have d1' : decide (300 < n) = false := decide_eq_false h3
    have HN3 : Hid (n ≤ 300) := hide (by omega)
    have HS := hide hs
    clear hs hn h3
    by_cases hst : 1 ≤ st ∧ st ≤ 16777216
    · have HST := hide hst
      have e1 : decide (st < 1) = false := decide_eq_false (by omega)
      have e2 : decide (16777216 < st) = false := decide_eq_false (by omega)
      have HNW := hide (New_ok st hst.1 hst.2 w)
      have HS0 : Hid (st ≠ 0) := hide (by omega)
      clear hst
      go_enter Try.func7, Try.ntmps7
      go_wp2_with fail
      refine HNW.out.mono ?_
      rintro e w1 ⟨rfl, rfl⟩
      clear HNW
      go_wp2_with fail
      obtain ⟨w1, hw1⟩ : ∃ w1, w1 = w.alloc (.cells #[.int .i64 st, .slice none 0 0] 55) := ⟨_, rfl⟩
      have HP0 : Hid (PI w w.heap.size w1.heap.size st [] [] (w1.alloc (.cells #[.int .i64 st, .slice none 0 0] 59))) := hide (by
        have b1 : Below w.heap.size w w1 := by rw [hw1]; exact (Below.refl _ _).alloc (Nat.le_refl _) _
        have x1 : BoxI w1 w.heap.size st (.slice none 0 0) := by rw [hw1]; exact BoxI.new w st _
        exact ⟨b1.alloc b1.size _, Nat.le_refl _, b1.size, _, _, ⟨x1.same ((Below.refl _ _).alloc (Nat.le_refl _) _), ⟨rfl, .inl ⟨rfl, rfl⟩⟩⟩, ⟨heap_alloc_new w1 _, ⟨rfl, .inl ⟨rfl, rfl⟩⟩⟩, fun b e => by cases e⟩)
      rw [← hw1]
      generalize (w1.alloc (.cells #[.int .i64 st, .slice none 0 0] 59)) = w2 at *
      have hz : w1.heap.size = w.heap.size + 1 := by rw [hw1]; simp
      rw [hz] at HP0
      clear hz hw1
      clear w1
      go_loopw [5, 8] (fun x i wr => ∃ (k : Nat) (l : List S2) (g : Nat), k ≤ n ∧ x = .pointer (some ⟨g, 0, none⟩) ∧ i = .int .i64 (k : Nat) ∧ l.length ≤ k ∧ Hid (WF st l) ∧ Hid (PI w g (w.heap.size + 1) st l l wr)) (fun _ i _ => n - (intOf i).toNat)
      case atStart => exact ⟨0, [], _, Nat.zero_le _, rfl, rfl, Nat.le_refl _, hide (WF.nil st), HP0⟩
      case round =>
        obtain ⟨k, l, g, hk, rfl, rfl, hlk, HW, HP⟩ := hrel
        have hn3 := HN3.out
        by_cases hlt : k < n
        · have d3 : decide ((k : Int) < (n : Int)) = true := decide_eq_true (by omega)
          have d3' : decide (k < n) = true := decide_eq_true hlt
          have hi1 : (k : Int) < (n : Int) := by omega
          obtain ⟨blk, off, rfl, m0, m1, m2, m3⟩ := (HS.out.below HP.out.bel (Nat.le_refl _)) k hlt
          generalize F k = s at *
          obtain ⟨sk, so, sp, sn⟩ := s
          dsimp only at m0 m1 m2 m3
          have HJ := hide (PJ.new HP.out ⟨sk, so, sp, sn⟩)
          dsimp only at HJ
          have hl8 : Hid (l.length ≤ 8000 ∧ l.length + 1 ≤ 8000) := hide (by omega)
          have HLK := hide hlk
          have HLT := hide hlt
          have hw5 : IntKind.i64.wrap ((k : Int) + 1) = (k : Int) + 1 := by rw [IntKind.wrap_i64]; omega
          have HKN : Hid (k + 1 ≤ n) := hide hlt
          clear HP HS hlk hlt hn3 HP0 HN3 hk
          generalize w.heap.size + 1 = gr at *
          by_cases h1 : sk = 1
          · as_aux_lemma =>
              subst h1
              have HX := hide (HJ.out.pi.addX HS0.out hl8.out.1 HW.out ⟨so, sp⟩)
              have HR := hide (fun (W : World) (h : PI w g gr st (addL st l ⟨so, sp⟩) l W) => h.addR hl8.out.1 HW.out ⟨so, sp⟩)
              have HLN : Hid ((addL st l ⟨so, sp⟩).length ≤ k + 1 ∧ (addL st l ⟨so, sp⟩).length ≤ 8000) := hide (by
                have h1 := addL_len st l ⟨so, sp⟩
                have h2 := hl8.out
                have h3 := HLK.out
                omega)
              have HWA := hide (HW.out.add ⟨so, sp⟩)
              generalize addB st l ⟨so, sp⟩ = rB at *
              generalize addE l ⟨so, sp⟩ = rE at *
              generalize addL st l ⟨so, sp⟩ = l2 at *
              unfold spotV at HX HR
              dsimp only at HX HR
              go_wp2_with fail
              refine HX.out.mono ?_
              rintro e W2 ⟨rfl, hP, hK⟩
              have HJ2 := hide (HJ.out.step hP hK)
              obtain ⟨c0, c1, c2, c3⟩ := HJ2.out.cells
              dsimp only at c0 c1 c2 c3
              clear hP hK HX HJ
              go_wp2_with fail
              refine (HR.out _ HJ2.out.pi).mono ?_
              rintro e W3 ⟨rfl, hP, hK⟩
              have HJ3 := hide (HJ2.out.step hP hK)
              clear hP hK HR HJ2 c0 c1 c2 c3
              go_wp2_with fail
              refine (HJ3.out.pi.tells HST.out.1 HST.out.2 (HLN.out).2).mono ?_
              rintro e Wt ⟨rfl, hBt⟩
              have HPt := hide (HJ3.out.pi.call hBt)
              clear hBt
              go_wp2_with fail
              go_roundw
              case rel => exact ⟨k + 1, l2, g, HKN.out, rfl, by go_num, (HLN.out).1, HWA, HPt⟩
              case measure => have := HKN.out; simp [intOf]; omega
          have k1 : (sk == 1) = false := beq_eq_false_iff_ne.2 h1
          by_cases h2 : sk = 2
          · as_aux_lemma =>
              subst h2
              have HX := hide (fun (W : World) (h : PI w g gr st l l W) => h.findX HS0.out hl8.out.1 HW.out sn)
              have HR := hide (fun (W : World) (h : PI w g gr st l l W) => h.findR hl8.out.1 HW.out sn)
              generalize lastR (fun s => decide (sn < s.o)) l = fs at HX HR
              generalize lastB (fun s => decide (sn < s.o)) l = fb at HX HR
              obtain ⟨fo, fp⟩ := fs
              unfold spotV at HX HR
              dsimp only at HX HR
              go_wp2_with fail
              refine (HX.out _ HJ.out.pi).mono ?_
              rintro e W2 ⟨rfl, hB⟩
              have HJ2 := hide (HJ.out.call hB)
              have HJ3 := hide (HJ2.out.call ((Below.refl _ _).alloc (Nat.le_refl _) (.cells #[.int .i64 fo, .int .i64 fp] 31)))
              obtain ⟨c0, c1, c2, c3⟩ := HJ2.out.cells
              obtain ⟨e0, e1, e2, e3⟩ := HJ3.out.cells
              dsimp only at c0 c1 c2 c3 e0 e1 e2 e3
              clear hB HX HJ
              go_wp2_with fail
              refine (HR.out _ HJ3.out.pi).mono ?_
              rintro e W4 ⟨rfl, hB⟩
              have HJ4 := hide (HJ3.out.call hB)
              have hbx : W4.heap[W2.heap.size]? = some (.cells #[.int .i64 fo, .int .i64 fp] 31 (0, 0)) := (hB.block W2.heap.size (by simp)).trans (heap_alloc_new W2 _)
              have HJ5 := hide (HJ4.out.call ((Below.refl _ _).alloc (Nat.le_refl _) (.cells #[.int .i64 fo, .int .i64 fp] 31)))
              have b0 : W4.cell? ⟨W2.heap.size, 0, none⟩ = some (.int .i64 fo) := by rw [cell_of_row _ _ _ _ _ _ hbx]; rfl
              have b1 : W4.cell? ⟨W2.heap.size, 1, none⟩ = some (.int .i64 fp) := by rw [cell_of_row _ _ _ _ _ _ hbx]; rfl
              have hlt2 : W2.heap.size < W4.heap.size := (Array.getElem?_eq_some_iff.1 hbx).1
              have hne2 : W4.heap.size ≠ W2.heap.size := by omega
              have hne3 : W2.heap.size ≠ W4.heap.size := by omega
              clear hB HR HJ2 HJ3 HJ4 c0 c1 c2 c3 e0 e1 e2 e3 hbx
              generalize W2.heap.size = B2 at *
              go_wp2_with fail
              refine (HJ5.out.pi.tells HST.out.1 HST.out.2 (And.intro (Nat.le_succ_of_le HLK.out) hl8.out.1).2).mono ?_
              rintro e Wt ⟨rfl, hBt⟩
              have HPt := hide (HJ5.out.pi.call hBt)
              clear hBt
              go_wp2_with fail
              go_roundw
              case rel => exact ⟨k + 1, l, g, HKN.out, rfl, by go_num, (And.intro (Nat.le_succ_of_le HLK.out) hl8.out.1).1, HW, HPt⟩
              case measure => have := HKN.out; simp [intOf]; omega
          have k2 : (sk == 2) = false := beq_eq_false_iff_ne.2 h2
          by_cases h3 : sk = 3
          · as_aux_lemma =>
              subst h3
              have HX := hide (fun (W : World) (h : PI w g gr st l l W) => h.atX HS0.out hl8.out.1 HW.out sn)
              have HR := hide (fun (W : World) (h : PI w g gr st l l W) => h.atR hl8.out.1 HW.out sn)
              generalize lastR (fun s => decide (sn < s.p)) l = fs at HX HR
              generalize lastB (fun s => decide (sn < s.p)) l = fb at HX HR
              obtain ⟨fo, fp⟩ := fs
              unfold spotV at HX HR
              dsimp only at HX HR
              go_wp2_with fail
              refine (HX.out _ HJ.out.pi).mono ?_
              rintro e W2 ⟨rfl, hB⟩
              have HJ2 := hide (HJ.out.call hB)
              have HJ3 := hide (HJ2.out.call ((Below.refl _ _).alloc (Nat.le_refl _) (.cells #[.int .i64 fo, .int .i64 fp] 31)))
              obtain ⟨c0, c1, c2, c3⟩ := HJ2.out.cells
              obtain ⟨e0, e1, e2, e3⟩ := HJ3.out.cells
              dsimp only at c0 c1 c2 c3 e0 e1 e2 e3
              clear hB HX HJ
              go_wp2_with fail
              refine (HR.out _ HJ3.out.pi).mono ?_
              rintro e W4 ⟨rfl, hB⟩
              have HJ4 := hide (HJ3.out.call hB)
              have hbx : W4.heap[W2.heap.size]? = some (.cells #[.int .i64 fo, .int .i64 fp] 31 (0, 0)) := (hB.block W2.heap.size (by simp)).trans (heap_alloc_new W2 _)
              have HJ5 := hide (HJ4.out.call ((Below.refl _ _).alloc (Nat.le_refl _) (.cells #[.int .i64 fo, .int .i64 fp] 31)))
              have b0 : W4.cell? ⟨W2.heap.size, 0, none⟩ = some (.int .i64 fo) := by rw [cell_of_row _ _ _ _ _ _ hbx]; rfl
              have b1 : W4.cell? ⟨W2.heap.size, 1, none⟩ = some (.int .i64 fp) := by rw [cell_of_row _ _ _ _ _ _ hbx]; rfl
              have hlt2 : W2.heap.size < W4.heap.size := (Array.getElem?_eq_some_iff.1 hbx).1
              have hne2 : W4.heap.size ≠ W2.heap.size := by omega
              have hne3 : W2.heap.size ≠ W4.heap.size := by omega
              clear hB HR HJ2 HJ3 HJ4 c0 c1 c2 c3 e0 e1 e2 e3 hbx
              generalize W2.heap.size = B2 at *
              go_wp2_with fail
              refine (HJ5.out.pi.tells HST.out.1 HST.out.2 (And.intro (Nat.le_succ_of_le HLK.out) hl8.out.1).2).mono ?_
              rintro e Wt ⟨rfl, hBt⟩
              have HPt := hide (HJ5.out.pi.call hBt)
              clear hBt
              go_wp2_with fail
              go_roundw
              case rel => exact ⟨k + 1, l, g, HKN.out, rfl, by go_num, (And.intro (Nat.le_succ_of_le HLK.out) hl8.out.1).1, HW, HPt⟩
              case measure => have := HKN.out; simp [intOf]; omega
          have k3 : (sk == 3) = false := beq_eq_false_iff_ne.2 h3
          by_cases h4 : sk = 4
          · as_aux_lemma =>
              subst h4
              have hq9 : (((l.length : Int) - (cutN sn l : Nat)) != ((l.length : Int) - (cutN sn l : Nat))) = false := by simp
              have HX0 := hide (fun (l2 : List S2) (W : World) (h : PI w g gr st l l2 W) => h.cutX HS0.out hl8.out.1 HW.out sn)
              have HR0 := hide (fun (l1 : List S2) (W : World) (h : PI w g gr st l1 l W) => h.cutR hl8.out.1 sn)
              have HLN : Hid ((l.take (cutN sn l)).length ≤ k + 1 ∧ (l.take (cutN sn l)).length ≤ 8000) := hide (by
                have h1 := hl8.out
                have h2 := HLK.out
                rw [List.length_take]
                omega)
              have HWA := hide (HW.out.take (cutN sn l))
              generalize l.take (cutN sn l) = l2 at *
              generalize ((l.length : Int) - (cutN sn l : Nat)) = rc at *
              go_wp2_with fail
              have HJ0 := hide (HJ.out.call (Below.refl _ _).drew)
              obtain ⟨c0, c1, c2, c3⟩ := HJ0.out.cells
              dsimp only at c0 c1 c2 c3
              go_region_with (first
                | (go_at_call 12; with_reducible refine (HX0.out _ _ HJB.out.pi).mono ?_; rintro e W3 ⟨rfl, hP, hK⟩; have HJ3 := hide (HJB.out.step hP hK); clear hP hK)
                | (go_at_call 12; with_reducible refine (HX0.out _ _ HJ0.out.pi).mono ?_; rintro e W2 ⟨rfl, hP, hK⟩; have HJA := hide (HJ0.out.step hP hK); obtain ⟨f0, f1, f2, f3⟩ := HJA.out.cells; dsimp only at f0 f1 f2 f3; clear hP hK)
                | (go_at_call 25; with_reducible refine (HR0.out _ _ HJA.out.pi).mono ?_; rintro e W3 ⟨rfl, hP, hK⟩; have HJ3 := hide (HJA.out.step hP hK); clear hP hK)
                | (go_at_call 25; with_reducible refine (HR0.out _ _ HJ0.out.pi).mono ?_; rintro e W2 ⟨rfl, hP, hK⟩; have HJB := hide (HJ0.out.step hP hK); obtain ⟨f0, f1, f2, f3⟩ := HJB.out.cells; dsimp only at f0 f1 f2 f3; clear hP hK))
              all_goals
                go_wp2_with fail
                refine (HJ3.out.pi.tells HST.out.1 HST.out.2 (HLN.out).2).mono ?_
                rintro e Wt ⟨rfl, hBt⟩
                have HPt := hide (HJ3.out.pi.call hBt)
                clear hBt
                go_wp2_with fail
                go_roundw
                case rel => exact ⟨k + 1, l2, g, HKN.out, rfl, by go_num, (HLN.out).1, HWA, HPt⟩
                case measure => have := HKN.out; simp [intOf]; omega
          have k4 : (sk == 4) = false := beq_eq_false_iff_ne.2 h4
          by_cases h5 : sk = 5
          · as_aux_lemma =>
              subst h5
              go_wp2_with fail
              refine (HJ.out.pi.copy HS0.out hl8.out.1).mono ?_
              rintro e W2 ⟨g2, v2, rfl, hx, hg2, hB⟩
              have hgl := HJ.out.pi.glt
              have hne : g2 ≠ g := by omega
              have hne' : g ≠ g2 := by omega
              have hpe : (binOp .eql 24 (.pointer (some ⟨g2, 0, none⟩)) (.pointer (some ⟨g, 0, none⟩))).run Try.prog W2 = .ok (.bool false) W2 := by
                obtain ⟨v5, u5, j1, j2, j3⟩ := (HJ.out.pi.call hB).ix
                exact ptr_ne hx.box j1.box hne
              have HCU := hide (Cut_ok 0 hx HS0.out (by have := hl8.out; omega) hB.size (rising_cut HW.out.rise 0))
              have HOL := hide (own_lt hx.own)
              have HB := hide hB
              have HG2 := hide hg2
              clear hx hg2 hB hgl
              go_wp2_with fail
              refine HCU.out.mono ?_
              rintro e W3 ⟨v3, rfl, k1, k2, k3⟩
              have HJ3 := hide (HJ.out.call (k2.below HB.out HB.out.size HG2.out HOL.out))
              clear k1 k2 k3 HCU HOL HB HG2 HJ
              go_wp2_with fail
              refine (HJ3.out.pi.tells HST.out.1 HST.out.2 hl8.out.1).mono ?_
              rintro e W4 ⟨rfl, hB⟩
              have HJ4 := hide (HJ3.out.call hB)
              clear hB HJ3
              go_wp2_with fail
              refine (HJ4.out.pi.copy HS0.out hl8.out.1).mono ?_
              rintro e W5 ⟨g5, v5, rfl, hx, hg5, hB⟩
              have HP5 := hide (HJ4.out.pi.renew hB hx (Nat.le_refl _) hg5)
              clear hx hg5 hB HJ4
              go_wp2_with fail
              refine (HP5.out.tells HST.out.1 HST.out.2 (And.intro (Nat.le_succ_of_le HLK.out) hl8.out.1).2).mono ?_
              rintro e Wt ⟨rfl, hBt⟩
              have HPt := hide (HP5.out.call hBt)
              clear hBt
              go_wp2_with fail
              go_roundw
              case rel => exact ⟨k + 1, l, g5, HKN.out, rfl, by go_num, (And.intro (Nat.le_succ_of_le HLK.out) hl8.out.1).1, HW, HPt⟩
              case measure => have := HKN.out; simp [intOf]; omega
          have k5 : (sk == 5) = false := beq_eq_false_iff_ne.2 h5
          by_cases h6 : sk = 6
          · as_aux_lemma =>
              subst h6
              have hRF := readF_byt HW.out HST.out.1 HST.out.2 hl8.out.1
              have hbl := bytesL_length st l
              have HBZ : Hid ((bytesL st l).length ≤ 100000 ∧ 0 < (bytesL st l).length) := hide (by have := hl8.out; omega)
              have HRF := hide hRF
              have HBF := hide (bytF_lt st l)
              have HBG : Hid (∀ j, bytF st l j = (bytesL st l).getD j 0) := hide (fun j => rfl)
              have HBY := hide (HJ.out.pi.bytes HST.out.1 HST.out.2 hl8.out.1)
              clear hRF hbl
              generalize bytF st l = fb at *
              generalize bytesL st l = bs at *
              go_wp2_with fail
              generalize (wr.alloc (.cells #[.int .i64 6, .int .i64 so, .int .i64 sp, .int .i64 sn] 61)) = W1 at *
              refine HBY.out.mono ?_
              rintro e W2 ⟨bv, rfl, hrow, hB2⟩
              obtain ⟨ba, bcap, rfl, hble, hcells, hj1⟩ := bytes_any2 hrow
              obtain ⟨rb, rfl, hrb1, hrb2, hbc, hBL⟩ := BL.new hrow HBZ.out.2
              have HRD := hide (Read_ok fb HBF.out (some ⟨rb, 0, none⟩) bs.length bcap W2 HBZ.out.1 hble (fun j hj => by obtain ⟨b, o, e1, e2⟩ := hcells j hj; exact ⟨b, o, e1, by rw [e2]; show some (Value.int .u8 (bs.getD j 0 : Nat)) = some (Value.int .u8 (fb j : Nat)); rw [HBG.out]⟩))
              have HROW := hide hrow
              have HB2 := hide hB2
              have HRB := hide (And.intro hrb1 hrb2)
              clear hrow hB2 hble hcells hj1 hbc hBL hrb1 hrb2 HBY HBG HBF
              generalize hbn : bs.length = bl at *
              clear hbn
              go_wp2_with fail
              refine HRD.out.mono ?_
              rintro e W3 ⟨hB3, hj1, hsome⟩
              obtain ⟨g3, v3, rfl, hg3, hx3⟩ := hsome st l HRF.out
              have hrow3 : W3.ownsRow W1.heap.size 5 1 (.slice (some ⟨rb, 0, none⟩) bl bcap) bl (byteC bs) := HROW.out.kept (row := none) ⟨hB3.os, hB3.tape, hB3.output, hB3.size, fun i hi _ => hB3.block i hi⟩ (by simp [Value.ownBlock])
              obtain ⟨rb', erb, hj2, hj3, hbc, hBL⟩ := BL.new hrow3 HBZ.out.2
              obtain rfl : rb = rb' := by injection erb with erb; injection erb
              have HBL := hide hBL
              have HX3 := hide hx3
              have HBW := hide (HB2.out.trans (hB3.mono HB2.out.size))
              have HG3 := hide hg3
              have HGW := hide (Nat.le_trans HB2.out.size hg3)
              have HZW := hide HB2.out.size
              have HZ3 := hide hB3.size
              clear hB3 hj1 hsome hg3 hx3 hrow3 erb hj2 hj3 hbc hBL HRD HROW HRF HB2
              go_wp2_with fail
              go_loopw [28] (fun i wb => ∃ j : Nat, j ≤ bl ∧ i = .int .i64 (j : Nat) ∧ Hid (BL W3 rb bl wb)) (fun i _ => bl - (intOf i).toNat)
              case atStart => exact ⟨0, Nat.zero_le _, rfl, HBL⟩
              case round =>
                obtain ⟨j, hj, rfl, HB⟩ := hrel
                have hbz := HBZ.out
                by_cases hjl : j < bl
                · as_aux_lemma =>
                    obtain ⟨cv, c0, c1⟩ := HB.out.cell hjl
                    have d4 : decide ((j : Int) < (bl : Int)) = true := decide_eq_true (by omega)
                    have d4' : decide (j < bl) = true := decide_eq_true hjl
                    have hi4 : (j : Int) < (bl : Int) := by omega
                    have hw6 : IntKind.i64.wrap ((j : Int) + 1) = (j : Int) + 1 := by rw [IntKind.wrap_i64]; omega
                    have HJL := hide hjl
                    clear hjl hbz hj
                    go_wp2_with fail
                    go_roundw
                    case rel => exact ⟨j + 1, HJL.out, by go_num, hide (HB.out.set j _)⟩
                    case measure => have := HJL.out; simp [intOf]; omega
                · as_aux_lemma =>
                    have d4 : decide ((j : Int) < (bl : Int)) = false := decide_eq_false (by omega)
                    have d4' : decide (j < bl) = false := decide_eq_false hjl
                    have HPR : Hid (PI w g3 gr st l l wr) := hide (by
                      have hb1 := HRB.out
                      have hg := HB.out.grown
                      have hne : g3 ≠ rb := by have := HG3.out; omega
                      have hvn : v3.ownBlock ≠ some rb := fun e => by have := (HX3.out.own.lt rb e).1; omega
                      exact HJ.out.pi.renew (HBW.out.grown hg HBW.out.size (by intro r e; injection e with e; omega)) (v2 := v3) (B := W2.heap.size) ⟨(hg.block g3 HX3.out.box.lt (by simpa using hne)).trans HX3.out.box, HX3.out.own.kept hg (.inr hvn)⟩ HZW.out HGW.out)
                    clear HB hbz hj hjl HX3 HBW HG3 HGW HRB HZW HZ3 HBL HJ
                    go_wp2_with fail
                    refine (HPR.out.tells HST.out.1 HST.out.2 (And.intro (Nat.le_succ_of_le HLK.out) hl8.out.1).2).mono ?_
                    rintro e Wt ⟨rfl, hBt⟩
                    have HPt := hide (HPR.out.call hBt)
                    clear hBt
                    go_wp2_with fail
                    go_roundw
                    case rel => exact ⟨k + 1, l, g3, HKN.out, rfl, by go_num, (And.intro (Nat.le_succ_of_le HLK.out) hl8.out.1).1, HW, HPt⟩
                    case measure => have := HKN.out; simp [intOf]; omega
          have k6 : (sk == 6) = false := beq_eq_false_iff_ne.2 h6
          clear h1 h2 h3 h4 h5 h6
          as_aux_lemma =>
            go_wp2_with fail
            refine (HJ.out.pi.tells HST.out.1 HST.out.2 (And.intro (Nat.le_succ_of_le HLK.out) hl8.out.1).2).mono ?_
            rintro e Wt ⟨rfl, hBt⟩
            have HPt := hide (HJ.out.pi.call hBt)
            clear hBt
            go_wp2_with fail
            go_roundw
            case rel => exact ⟨k + 1, l, g, HKN.out, rfl, by go_num, (And.intro (Nat.le_succ_of_le HLK.out) hl8.out.1).1, HW, HPt⟩
            case measure => have := HKN.out; simp [intOf]; omega
        · as_aux_lemma =>
            obtain rfl : k = n := by omega
            have d3 : decide ((k : Int) < (k : Int)) = false := decide_eq_false (by omega)
            have d3' : decide (k < k) = false := decide_eq_false (by omega)
            have HB := hide HP.out.bel
            clear hlt hk hlk HW HP HP0 HS
            go_wp2_with fail
            refine (known_ok wr).mono ?_
            rintro e w5 ⟨rfl, hB5⟩
            have HB5 := hide (HB.out.trans (hB5.mono HB.out.size))
            clear hB5
            go_wp2_with fail
            go_ret
            exact ⟨rfl, HB5.out⟩
    · as_aux_lemma =>
        have HNW := hide (New_no st (by omega) w)
        by_cases h1 : st < 1
        · have e1 : decide (st < 1) = true := decide_eq_true h1
          clear hst h1
          go_enter Try.func7, Try.ntmps7
          go_wp2_with fail
          refine HNW.out.mono ?_
          rintro e w1 ⟨rfl, rfl⟩
          go_wp2_with fail
          refine (known_ok w).mono ?_
          rintro e w1 ⟨rfl, hB⟩
          go_wp2_with fail
          go_ret
          exact ⟨rfl, hB⟩
        · have e1 : decide (st < 1) = false := decide_eq_false h1
          have e2 : decide (16777216 < st) = true := decide_eq_true (by omega)
          clear hst h1
          go_enter Try.func7, Try.ntmps7
          go_wp2_with fail
          refine HNW.out.mono ?_
          rintro e w1 ⟨rfl, rfl⟩
          go_wp2_with fail
          refine (known_ok w).mono ?_
          rintro e w1 ⟨rfl, hB⟩
          go_wp2_with fail
          go_ret
          exact ⟨rfl, hB⟩
end Go.Proofs.Ythbknahmmegcdaa
