/- The reference's Bytes. -/
import Derived.Test.YthbknahmmegcdaaIxRefNum
import Derived.Test.YthbknahmmegcdaaIxBytes
import Derived.Deep.RegionHeld3
namespace Go.Proofs.Ythbknahmmegcdaa
open Go.RowKit Go.Shelf
set_option linter.unusedVariables false

/-- a reference's index -/
structure RefAt (w : World) (gr : Nat) (st : Int) (ao : Option Addr) (cap : Nat) (l : List S2) : Prop where
  box : w.heap[gr]? = some (.cells #[.int .i64 st, .slice ao l.length cap] 59 (0, 0))
  sp : SpotsAt w ao l
theorem RefAt.lt {w : World} {gr : Nat} {st : Int} {ao : Option Addr} {cap : Nat} {l : List S2} (h : RefAt w gr st ao cap l) : gr < w.heap.size := (Array.getElem?_eq_some_iff.1 h.box).1
theorem RefAt.call {w w' : World} {gr : Nat} {st : Int} {ao : Option Addr} {cap : Nat} {l : List S2} (h : RefAt w gr st ao cap l) (hB : Below w.heap.size w w') : RefAt w' gr st ao cap l :=
  ⟨(hB.block gr h.lt).trans h.box, h.sp.below hB (Nat.le_refl _)⟩
theorem RefAt.cells {w : World} {gr : Nat} {st : Int} {ao : Option Addr} {cap : Nat} {l : List S2} (h : RefAt w gr st ao cap l) : w.cell? ⟨gr, 0, none⟩ = some (.int .i64 st) ∧ w.cell? ⟨gr, 1, none⟩ = some (.slice ao l.length cap) :=
  ⟨by rw [cell_of_row _ _ _ _ _ _ h.box]; rfl, by rw [cell_of_row _ _ _ _ _ _ h.box]; rfl⟩
theorem byteC_append (l m : List Nat) : byteC (l ++ m) = byteC l ++ byteC m := by simp [byteC]
theorem BRow.call {base : Nat} {w0 w w2 : World} {r0 : Option Nat} {v : Value} {l : List Nat} (h : BRow base w0 r0 v l w) (hB : Below w.heap.size w w2) : BRow base w0 r0 v l w2 :=
  ⟨h.own.kept (row := none) ⟨hB.os, hB.tape, hB.output, hB.size, fun i hi _ => hB.block i hi⟩ (by cases v.ownBlock <;> simp), grown_trans h.grow (⟨hB.os, hB.tape, hB.output, hB.size, fun i hi _ => hB.block i hi⟩ : w.grownBy w2 r0) (.inl rfl), h.lies⟩
theorem BRow.apps {base g cap k k2 : Nat} {w0 W w1 : World} {r0 : Option Nat} {v : Value} {l l2 : List Nat} (h : BRow base w0 r0 v l W) (hk : l.length = k) (hk2 : l2.length = k2)
    (hown : w1.ownsRow base 5 1 (.slice (some ⟨g, 0, none⟩) (k + k2) cap) (k + k2) (byteC l ++ byteC l2)) (hgrow : W.grownBy w1 v.ownBlock) (hat : v.ownBlock = some g ∨ g = W.heap.size) :
    BRow base w0 r0 (.slice (some ⟨g, 0, none⟩) (k + k2) cap) (l ++ l2) w1 := by
  subst hk hk2
  have h1 : BRow base W v.ownBlock (.slice (some ⟨g, 0, none⟩) (l.length + l2.length) cap) (l ++ l2) w1 := by
    refine ⟨by rw [List.length_append, byteC_append]; exact hown, hgrow, ?_⟩
    rcases hat with e | e
    · exact .inl e.symm
    · exact .inr ⟨g, rfl, by rw [e]; exact Nat.le_refl _⟩
  exact h.trans h1
theorem BRow.bel {base : Nat} {w0 w : World} {v : Value} {l : List Nat} (h : BRow base w0 none v l w) : Below w0.heap.size w0 w := h.below (Below.refl _ _) (Nat.le_refl _) (by intro r e; cases e)
theorem BRow.bel_drew {base : Nat} {w0 w : World} {v : Value} {l : List Nat} (h : BRow base w0.drew none v l w) : Below w0.heap.size w0 w :=
  (show Below w0.heap.size w0 w0.drew from (Below.refl _ _).drew).trans h.bel
theorem BRow.undrew {base : Nat} {w0 w : World} {r : Option Nat} {v : Value} {l : List Nat} (h : BRow base w0.drew r v l w) : BRow base w0 r v l w := ⟨h.own, ⟨h.grow.os, h.grow.tape, h.grow.output, h.grow.size, h.grow.block⟩, h.lies⟩
theorem u64N_lt (x : Int) : u64N x < 18446744073709551616 := by unfold u64N; omega
theorem number4_ok (x : Nat) (hx : x < 18446744073709551616) (w : World) : Calls Try.prog 44 #[.int .u64 (x : Nat), .int .i64 4] w fun e w' => ∃ v', e = .returned v' ∧ BRow w.heap.size w none v' (numL x 4) w' := number_ok x 4 hx (by omega) w
theorem number8_ok (x : Nat) (hx : x < 18446744073709551616) (w : World) : Calls Try.prog 44 #[.int .u64 (x : Nat), .int .i64 8] w fun e w' => ∃ v', e = .returned v' ∧ BRow w.heap.size w none v' (numL x 8) w' := number_ok x 8 hx (by omega) w
/-- a number's bytes, written out -/
theorem number_form {base : Nat} {w0 w : World} {r0 : Option Nat} {v : Value} {x n : Nat} (hn : 0 < n) (h : BRow base w0 r0 v (numL x n) w) :
    ∃ g c, v = .slice (some ⟨g, 0, none⟩) n c ∧ ∀ j u, (byteC (numL x n))[j]? = some u → w.cell? ((⟨g, 0, none⟩ : Addr).add j) = some u := by
  obtain ⟨g, c, e, _, _⟩ := h.own.form (by rw [numL_length]; exact hn)
  rw [numL_length] at e
  exact ⟨g, c, e, World.ownsRow.cells h.own (by rw [e]; rfl)⟩

set_option maxHeartbeats 4000000 in
theorem refBytes_ok {w : World} {gr : Nat} {st : Int} {ao : Option Addr} {cap : Nat} {l : List S2} (h : RefAt w gr st ao cap l) (hn : l.length ≤ 8000) :
    Calls Try.prog 39 #[.pointer (some ⟨gr, 0, none⟩)] w fun e w' => ∃ v, e = .returned v ∧ BRow w.heap.size w none v (bytesL st l) w' := by
  obtain ⟨i0, hi, hz0, hz1, hz2⟩ := info_parts Try.infoB
  have HX := hide h
  obtain ⟨c0, c1⟩ := h.cells
  have hws := u64N_wrap st
  have hwl : IntKind.u64.wrap (l.length : Int) = (l.length : Int) := by rw [IntKind.wrap_u64]; omega
  have HBL : Hid (bytesL st l = numL (u64N st) 4 ++ numL l.length 4 ++ spotsB l) := hide rfl
  have HSX : Hid (∀ W, Below w.heap.size w W → W.cell? ⟨gr, 0, none⟩ = some (.int .i64 st) ∧ W.cell? ⟨gr, 1, none⟩ = some (.slice ao l.length cap)) := hide (fun W hb => (h.call hb).cells)
  have HUS := hide (u64N_lt st)
  have HLL : Hid (l.length < 18446744073709551616) := hide (by omega)
  clear h
  generalize u64N st = us at *
  go_enter Try.func39, Try.ntmps39
  go_wp2_with fail
  go_region_held3 (fun W => W.cell? ⟨gr, 0, none⟩ = some (.int .i64 st) ∧ W.cell? ⟨gr, 1, none⟩ = some (.slice ao l.length cap))
    (first
      | exact HSX.out _ HB4.out
      | exact HSX.out _ HB3.out
      | exact HSX.out _ HB2.out
      | exact HSX.out _ (Below.refl _ _).drew
      | fail)
    (first
      | (go_at_call 44; with_reducible refine (number4_ok us HUS.out _).mono ?_; rintro e w2 ⟨vv1, rfl, hR1⟩; have HR1 := hide hR1; have HB2 : Hid (Below w.heap.size w w2) := hide hR1.bel_drew; clear hR1)
      | (go_at_call 44; with_reducible refine (number4_ok l.length HLL.out _).mono ?_; rintro e w3 ⟨vv2, rfl, hR2⟩; obtain ⟨g2, cp2, rfl, hcs⟩ := number_form (by omega) hR2; have HCS := hide hcs; have HR3 := hide (HR1.out.call hR2.bel); have HB3 : Hid (Below w.heap.size w w3) := hide (HB2.out.trans (hR2.bel.mono HB2.out.size)); clear hR2 hcs)
      | (refine step_append_lies _ rfl (.tmp 10) (.tmp 17) 43 rfl w.heap.size 5 i0 (.int .u8 0) 1 1 Try.underlying43 hi hz0 hz1 hz2 rfl (by decide) vv1 4 (byteC (numL us 4)) (by simp [Act.eval]) HR3.out.own ⟨g2, 0, none⟩ 4 cp2 (byteC (numL l.length 4)) (by simp [Act.eval]) (by simp [byteC_length]) HCS.out (byteC_one _) (by omega) (by unfold maxLen; omega) (by omega) HB3.out.size _ rfl ?_; intro g cap1 w4 hown hgrow hat hlt1; have HR4 := hide (HR3.out.apps (numL_length _ _) (numL_length _ _) hown hgrow hat); have HB4 : Hid (Below w.heap.size w w4) := hide (HB3.out.grown hgrow HB3.out.size (BRow.lo HR3.out.own)); clear hown hgrow hat hlt1)
      | fail)
  have HR5 := hide HR4.out.undrew
  clear HR4 HR3 HR1 HB2 HB3 HCS c0 c1 hws hwl HUS HLL
  have h84 : (numL us 4 ++ numL l.length 4).length = 8 := by simp
  have H84 := hide h84
  clear h84
  generalize numL us 4 ++ numL l.length 4 = hd at *
  have HR0 : Hid (BRow w.heap.size w none (.slice (some ⟨g, 0, none⟩) 8 cap1) (hd ++ spotsB (l.take 0)) w4) := hide (by simpa [spotsB] using HR5.out)
  have HTK : Hid (∀ k, k < l.length → hd ++ spotsB (l.take (k + 1)) = hd ++ spotsB (l.take k) ++ numL (u64N (l.getD k default).o) 8 ++ numL (u64N (l.getD k default).p) 4) := hide (fun k hk => by
    rw [List.take_add_one, List.getElem?_eq_getElem hk, Option.toList_some, spotsB_snoc]
    simp [spotB, List.getD_eq_getElem?_getD, hk, List.append_assoc])
  have HLK : Hid (∀ k, (hd ++ spotsB (l.take k)).length ≤ 99000) := hide (fun k => by rw [List.length_append, H84.out, spotsB_length, List.length_take]; omega)
  clear HR5 H84
  simp only [Nat.reduceAdd]
  go_wp2_with fail
  go_loopw [3, 4] (fun v i wr => ∃ (k : Nat), k ≤ l.length ∧ i = .int .i64 k ∧ Hid (BRow w.heap.size w none v (hd ++ spotsB (l.take k)) wr)) (fun _ i _ => l.length - (intOf i).toNat)
  case atStart => exact ⟨0, Nat.zero_le _, rfl, HR0⟩
  case round =>
    obtain ⟨k, hk, rfl, HB⟩ := hrel
    have HBL0 := hide HB.out.bel
    obtain ⟨c0, c1⟩ := HSX.out wr HBL0.out
    by_cases hlt : k < l.length
    · obtain ⟨rb, of, rfl, m0, m1⟩ := HX.out.sp k hlt
      have hrb := World.block_lt_of_cell? w _ m0
      have HM := hide (fun (W : World) (hB : Below w.heap.size w W) => And.intro ((hB.cell (p := ⟨rb, of + k * 2, none⟩) hrb).trans m0) ((hB.cell (p := ⟨rb, of + k * 2 + 1, none⟩) hrb).trans m1))
      have hlk := HLK.out k
      have htk := HTK.out k hlt
      have HT := hide htk
      have hwo := u64N_wrap (l.getD k default).o
      have hwp := u64N_wrap (l.getD k default).p
      have HUO := hide (u64N_lt (l.getD k default).o)
      have HUP := hide (u64N_lt (l.getD k default).p)
      have hi1 : (k : Int) < (l.length : Int) := by omega
      have d1 : decide ((k : Int) < (l.length : Int)) = true := decide_eq_true (by omega)
      have d1' : decide (k < l.length) = true := decide_eq_true hlt
      have HLT := hide hlt
      clear m0 m1 hrb htk HTK HLK HX hlt
      obtain ⟨m0, m1⟩ := HM.out wr HBL0.out
      have hsz := HBL0.out.size
      generalize l.getD k default = s at *
      generalize hd ++ spotsB (l.take k) = m at *
      generalize u64N s.o = uo at *
      generalize u64N s.p = up at *
      obtain ⟨so, sp⟩ := s
      dsimp only at m0 m1 hwo hwp HM
      go_wp2_with fail
      refine (number8_ok uo HUO.out wr).mono ?_
      rintro e w5 ⟨vv1, rfl, hR1⟩
      obtain ⟨g1, cp1, rfl, hcs1⟩ := number_form (by omega) hR1
      have HC1 := hide hcs1
      have HB5 := hide (HB.out.call hR1.bel)
      have HL5 := hide (HBL0.out.trans (hR1.bel.mono HBL0.out.size))
      have hsz5 := HL5.out.size
      clear hR1 hcs1 HB c0 c1 m0 m1 hwo
      obtain ⟨c0, c1⟩ := HSX.out _ HL5.out
      obtain ⟨m0, m1⟩ := HM.out _ HL5.out
      go_wp2_with (at_builtin; refine wpList_append_lies _ rfl _ _ 43 rfl w.heap.size 5 i0 (.int .u8 0) 1 1 Try.underlying43 hi hz0 hz1 hz2 rfl (by decide) _ m.length (byteC m) rfl HB5.out.own ⟨g1, 0, none⟩ 8 cp1 (byteC (numL uo 8)) rfl (by simp [byteC_length]) HC1.out (byteC_one _) (by omega) (by unfold maxLen; omega) (by omega) hsz5 _ rfl ?_; intro g3 cap3 w6 hown hgrow hat hlt1; have HB6 := hide (HB5.out.apps rfl (numL_length _ _) hown hgrow hat); have HL6 := hide HB6.out.bel; clear hown hgrow hat hlt1 c0 c1 m0 m1; obtain ⟨c0, c1⟩ := HSX.out _ HL6.out; obtain ⟨m0, m1⟩ := HM.out _ HL6.out)
      refine (number4_ok up HUP.out w6).mono ?_
      rintro e w7 ⟨vv3, rfl, hR3⟩
      obtain ⟨g4, cp4, rfl, hcs4⟩ := number_form (by omega) hR3
      have HC4 := hide hcs4
      have HB7 := hide (HB6.out.call hR3.bel)
      have HL7 := hide (HL6.out.trans (hR3.bel.mono HL6.out.size))
      have hsz7 := HL7.out.size
      have hOw := HB7.out.own
      rw [List.length_append, numL_length] at hOw
      have HOW := hide hOw
      clear hR3 hcs4 HB6 HB5 HC1 HL5 hsz5 hOw c0 c1 m0 m1
      obtain ⟨c0, c1⟩ := HSX.out _ HL7.out
      go_wp2_with (at_builtin; refine wpList_append_lies _ rfl _ _ 43 rfl w.heap.size 5 i0 (.int .u8 0) 1 1 Try.underlying43 hi hz0 hz1 hz2 rfl (by decide) _ (m.length + 8) (byteC (m ++ numL uo 8)) rfl HOW.out ⟨g4, 0, none⟩ 4 cp4 (byteC (numL up 4)) rfl (by simp [byteC_length]) HC4.out (byteC_one _) (by omega) (by unfold maxLen; omega) (by omega) hsz7 _ rfl ?_; intro g5 cap5 w8 hown hgrow hat hlt1; have HB8 := hide (HB7.out.apps (by rw [List.length_append, numL_length]) (numL_length _ _) hown hgrow hat); clear hown hgrow hat hlt1)
      go_roundw
      case rel => exact ⟨k + 1, HLT.out, by go_num, by rw [HT.out]; exact HB8⟩
      case measure => have := HLT.out; simp [intOf]; omega
    · obtain rfl : k = l.length := by omega
      have d1 : decide ((l.length : Int) < (l.length : Int)) = false := decide_eq_false (by omega)
      have HF : Hid (bytesL st l = hd ++ spotsB (l.take l.length)) := hide (by rw [List.take_length]; exact HBL.out)
      clear hlt hk HTK HLK HX HR0
      go_wp2_with fail
      go_ret
      exact ⟨_, rfl, by rw [HF.out]; exact HB.out⟩
end Go.Proofs.Ythbknahmmegcdaa
