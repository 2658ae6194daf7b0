/- KeepHolds: never all go, and nothing at Below or above; behind what goes nothing goes; later, or by a rule that keeps less, no fewer go; at the time that is told more go. (Written by wip/genholds.py.) -/
import Derived.Test.YtjgdegkjkedfcaaKeepLawWhy
import Derived.Test.YtjgdegkjkedfcaaKeepPlain2
import Derived.Deep.DeepCutAuto
import Derived.BigQuiet
namespace Go.Proofs.Ytjgdegkjkedfcaa
open Go.RowKit

structure HWs (w wc : World) (g1 : Nat) (r : R4) : Prop where
  box : BoxR wc g1 r
  bel : Below w.heap.size w wc
theorem HWs.call {w wc w2 : World} {g1 : Nat} {r : R4} (h : HWs w wc g1 r) (hB : Below wc.heap.size wc w2) : HWs w w2 g1 r := ⟨h.box.same hB, h.bel.trans (hB.mono h.bel.size)⟩
theorem HWs.drewN {w wc : World} {g1 : Nat} {r : R4} (h : HWs w wc g1 r) (k : Nat) : HWs w (wc.drewN k) g1 r := ⟨h.box, belowDrewN h.bel k⟩
theorem HWs.drew {w wc : World} {g1 : Nat} {r : R4} (h : HWs w wc g1 r) : HWs w wc.drew g1 r := ⟨h.box, h.bel.drew⟩
/-- .. and the rule that keeps less -/
structure LSs (w wc : World) (g1 gL : Nat) (r r2 : R4) : Prop where
  hw : HWs w wc g1 r
  lbox : BoxR wc gL r2
theorem LSs.new {w wc : World} {g1 : Nat} {r : R4} (h : HWs w wc g1 r) (r2 : R4) : LSs w (wc.alloc (.cells (ruleV r2) 29)) g1 wc.heap.size r r2 :=
  ⟨h.call ((Below.refl _ _).alloc (Nat.le_refl _) _), BoxR.new wc r2⟩
theorem LSs.set {w wc : World} {g1 gL : Nat} {r r2 r3 : R4} (h : LSs w wc g1 gL r r2) (hne : g1 ≠ gL) (hB : w.heap.size ≤ gL) (i : Nat) (x : Int) (e : (ruleV r2).setIfInBounds i (.int .i64 x) = ruleV r3) : LSs w (wc.setCell ⟨gL, i, none⟩ (.int .i64 x)) g1 gL r r3 := by
  refine ⟨⟨(Below.heap_setCell wc ⟨gL, i, none⟩ _ g1 hne).trans h.hw.box, h.hw.bel.setCell (p := ⟨gL, i, none⟩) hB _⟩, ?_⟩
  unfold BoxR
  rw [setCell_eq_setRow wc gL i _ _ _ _ h.lbox, ← e]
  exact setRow_heap wc gL _ _ _ _ h.lbox
theorem LSs.free {w wc : World} {g1 gL : Nat} {r r2 : R4} (h : LSs w wc g1 gL r r2) (j : Nat) : wc.frozen? ⟨gL, j, none⟩ = false := frozen_of_row wc gL j _ _ h.lbox
theorem LSs.call {w wc w2 : World} {g1 gL : Nat} {r r2 : R4} (h : LSs w wc g1 gL r r2) (hB : Below wc.heap.size wc w2) : HWs w w2 g1 r := h.hw.call hB
theorem PcsAt.drop {w : World} {b off : Nat} {l : List P3} (h : PcsAt w (some ⟨b, off, none⟩) l) (k : Nat) : PcsAt w (some ⟨b, off + k * 3, none⟩) (l.drop k) := by
  intro j hj
  obtain ⟨b2, off2, e, h1, h2, h3⟩ := h (k + j) (by simp at hj; omega)
  injection e with e
  injection e with e1 e2
  subst e1 e2
  have e : (l.drop k).getD j default = l.getD (k + j) default := by rw [List.getD_eq_getElem?_getD, List.getD_eq_getElem?_getD, List.getElem?_drop]
  rw [e]
  refine ⟨b, off + k * 3, rfl, ?_⟩
  rw [show off + k * 3 + j * 3 = off + (k + j) * 3 by omega]
  exact ⟨h1, h2, h3⟩
theorem PcsAt.empty {w : World} (a : Option Addr) {l : List P3} (h : l.length = 0) : PcsAt w a l := fun j hj => by omega

set_option maxHeartbeats 6400000 in
set_option maxRecDepth 100000 in
theorem holds_big (r : R4) (now later at0 : Int) (a : Option Addr) (c : Nat) (l : List P3) (w : World) (hn : l.length ≤ 9223372036854775807) (hp : PcsAt w a l) (h : 60 < l.length) :
    Calls Try.prog 5 #[.agg (caseV r now later at0 a l.length c)] w fun e w' => e = .returned (.bool true) ∧ Below w.heap.size w w' := by
  have HC0 := hide (case_new w (caseV r now later at0 a l.length c) r)
  have HCH := hide (Check_ok r)
  have HOR := hide (fun (w' : World) (hB : Below w.heap.size w w') => Ordered_ok a c l w' hn (hp.below hB (Nat.le_refl _)))
  have HNW := hide (now_ok now)
  have HNL := hide (now_ok later)
  unfold chkE at HCH
  have d1 : decide ((60 : Int) < (l.length : Int)) = true := decide_eq_true (by omega)
  have d1' : decide (60 < l.length) = true := decide_eq_true h
  clear hp hn h HCH HOR HNW HNL
  obtain ⟨ry, ra, rp, rw'⟩ := r
  unfold caseV ruleV at *
  generalize l.length = n at *
  go_enter Try.func5, Try.ntmps5
  go_wp2_with fail
  go_big_region
  obtain ⟨w0, hw0⟩ : ∃ w0, w0 = ((w.alloc (.cells #[.int .i64 ry, .int .i64 ra, .int .i64 rp, .int .i64 rw', .int .i64 now, .int .i64 later, .int .i64 at0, .slice a n c] 34)).alloc (.cells #[.int .i64 ry, .int .i64 ra, .int .i64 rp, .int .i64 rw'] 29)).drew := ⟨_, rfl⟩
  have HX0 : Hid (HWs w w0 (w.heap.size + 1) ⟨ry, ra, rp, rw'⟩) := hide (by rw [hw0]; exact ⟨HC0.out.2, HC0.out.1⟩)
  rw [← hw0]
  obtain ⟨b0, b1, b2, b3⟩ := HX0.out.box.cells
  clear HC0 hw0
  go_wp2_with fail
  refine (works_ok _).mono ?_
  rintro e w9 ⟨rfl, hB⟩
  go_wp2
  go_ret
  exact ⟨rfl, (HX0.out.call hB).bel⟩

set_option maxHeartbeats 6400000 in
set_option maxRecDepth 100000 in
theorem holds_chk (r : R4) (now later at0 : Int) (a : Option Addr) (c : Nat) (l : List P3) (w : World) (hn : l.length ≤ 9223372036854775807) (hp : PcsAt w a l) (h60 : l.length ≤ 60) (h : chkB r = false) :
    Calls Try.prog 5 #[.agg (caseV r now later at0 a l.length c)] w fun e w' => e = .returned (.bool true) ∧ Below w.heap.size w w' := by
  have HC0 := hide (case_new w (caseV r now later at0 a l.length c) r)
  have HCH := hide (Check_ok r)
  have HOR := hide (fun (w' : World) (hB : Below w.heap.size w w') => Ordered_ok a c l w' hn (hp.below hB (Nat.le_refl _)))
  have HNW := hide (now_ok now)
  have HNL := hide (now_ok later)
  unfold chkE at HCH
  have d1 : decide ((60 : Int) < (l.length : Int)) = false := decide_eq_false (by omega)
  have d1' : decide (60 < l.length) = false := decide_eq_false (by omega)
  rw [h] at HCH
  clear hp hn h HOR HNW HNL
  obtain ⟨ry, ra, rp, rw'⟩ := r
  unfold caseV ruleV at *
  generalize l.length = n at *
  go_enter Try.func5, Try.ntmps5
  go_wp2_with fail
  go_big_region
  obtain ⟨w0, hw0⟩ : ∃ w0, w0 = ((w.alloc (.cells #[.int .i64 ry, .int .i64 ra, .int .i64 rp, .int .i64 rw', .int .i64 now, .int .i64 later, .int .i64 at0, .slice a n c] 34)).alloc (.cells #[.int .i64 ry, .int .i64 ra, .int .i64 rp, .int .i64 rw'] 29)).drew := ⟨_, rfl⟩
  have HX0 : Hid (HWs w w0 (w.heap.size + 1) ⟨ry, ra, rp, rw'⟩) := hide (by rw [hw0]; exact ⟨HC0.out.2, HC0.out.1⟩)
  rw [← hw0]
  obtain ⟨b0, b1, b2, b3⟩ := HX0.out.box.cells
  clear HC0 hw0
  go_wp2_with fail
  refine (HCH.out w0).mono ?_
  rintro e w1 ⟨rfl, hB⟩
  have HX1 := hide (HX0.out.call hB)
  clear hB b0 b1 b2 b3
  go_wp2_with (go_at_call 8; with_reducible refine (num_ok _ _).mono ?_; rintro e w' ⟨rfl, rfl⟩)
  refine (works_ok _).mono ?_
  rintro e w9 ⟨rfl, hB⟩
  go_wp2
  go_ret
  exact ⟨rfl, (HX1.out.call hB).bel⟩

set_option maxHeartbeats 6400000 in
set_option maxRecDepth 100000 in
theorem holds_ord (r : R4) (now later at0 : Int) (a : Option Addr) (c : Nat) (l : List P3) (w : World) (hn : l.length ≤ 9223372036854775807) (hp : PcsAt w a l) (h60 : l.length ≤ 60) (h1 : chkB r = true) (h : ordE l ≠ 0) :
    Calls Try.prog 5 #[.agg (caseV r now later at0 a l.length c)] w fun e w' => e = .returned (.bool true) ∧ Below w.heap.size w w' := by
  have HC0 := hide (case_new w (caseV r now later at0 a l.length c) r)
  have HCH := hide (Check_ok r)
  have HOR := hide (fun (w' : World) (hB : Below w.heap.size w w') => Ordered_ok a c l w' hn (hp.below hB (Nat.le_refl _)))
  have HNW := hide (now_ok now)
  have HNL := hide (now_ok later)
  unfold chkE at HCH
  have d1 : decide ((60 : Int) < (l.length : Int)) = false := decide_eq_false (by omega)
  have d1' : decide (60 < l.length) = false := decide_eq_false (by omega)
  rw [h1] at HCH
  have hne : (ordE l != 0) = true := by simpa using h
  generalize ordE l = E at *
  clear hp hn h h1 HNW HNL
  obtain ⟨ry, ra, rp, rw'⟩ := r
  unfold caseV ruleV at *
  generalize l.length = n at *
  go_enter Try.func5, Try.ntmps5
  go_wp2_with fail
  go_big_region
  obtain ⟨w0, hw0⟩ : ∃ w0, w0 = ((w.alloc (.cells #[.int .i64 ry, .int .i64 ra, .int .i64 rp, .int .i64 rw', .int .i64 now, .int .i64 later, .int .i64 at0, .slice a n c] 34)).alloc (.cells #[.int .i64 ry, .int .i64 ra, .int .i64 rp, .int .i64 rw'] 29)).drew := ⟨_, rfl⟩
  have HX0 : Hid (HWs w w0 (w.heap.size + 1) ⟨ry, ra, rp, rw'⟩) := hide (by rw [hw0]; exact ⟨HC0.out.2, HC0.out.1⟩)
  rw [← hw0]
  obtain ⟨b0, b1, b2, b3⟩ := HX0.out.box.cells
  clear HC0 hw0
  go_wp2_with fail
  refine (HCH.out w0).mono ?_
  rintro e w1 ⟨rfl, hB⟩
  have HX1 := hide (HX0.out.call hB)
  clear hB b0 b1 b2 b3
  go_wp2_with (go_at_call 8; with_reducible refine (num_ok _ _).mono ?_; rintro e w' ⟨rfl, rfl⟩)
  refine (HOR.out w1 HX1.out.bel).mono ?_
  rintro e w2 ⟨rfl, hB⟩
  have HX2 := hide (HX1.out.call hB)
  clear hB
  go_wp2_with (go_at_call 8; with_reducible refine (num_ok _ _).mono ?_; rintro e w' ⟨rfl, rfl⟩)
  refine (works_ok _).mono ?_
  rintro e w9 ⟨rfl, hB⟩
  go_wp2
  go_ret
  exact ⟨rfl, (HX2.out.call hB).bel⟩

set_option maxHeartbeats 6400000 in
set_option maxRecDepth 100000 in
theorem holds_now (r : R4) (now later at0 : Int) (a : Option Addr) (c : Nat) (l : List P3) (w : World) (hn : l.length ≤ 9223372036854775807) (hp : PcsAt w a l) (h60 : l.length ≤ 60) (h1 : chkB r = true) (h2 : ordE l = 0) (h : inB now 9007199254740992 = false) :
    Calls Try.prog 5 #[.agg (caseV r now later at0 a l.length c)] w fun e w' => e = .returned (.bool true) ∧ Below w.heap.size w w' := by
  have HC0 := hide (case_new w (caseV r now later at0 a l.length c) r)
  have HCH := hide (Check_ok r)
  have HOR := hide (fun (w' : World) (hB : Below w.heap.size w w') => Ordered_ok a c l w' hn (hp.below hB (Nat.le_refl _)))
  have HNW := hide (now_ok now)
  have HNL := hide (now_ok later)
  unfold chkE at HCH
  have d1 : decide ((60 : Int) < (l.length : Int)) = false := decide_eq_false (by omega)
  have d1' : decide (60 < l.length) = false := decide_eq_false (by omega)
  rw [h1] at HCH
  rw [h2] at HOR
  rw [h] at HNW
  clear hp hn h h1 h2 HNL
  obtain ⟨ry, ra, rp, rw'⟩ := r
  unfold caseV ruleV at *
  generalize l.length = n at *
  go_enter Try.func5, Try.ntmps5
  go_wp2_with fail
  go_big_region
  obtain ⟨w0, hw0⟩ : ∃ w0, w0 = ((w.alloc (.cells #[.int .i64 ry, .int .i64 ra, .int .i64 rp, .int .i64 rw', .int .i64 now, .int .i64 later, .int .i64 at0, .slice a n c] 34)).alloc (.cells #[.int .i64 ry, .int .i64 ra, .int .i64 rp, .int .i64 rw'] 29)).drew := ⟨_, rfl⟩
  have HX0 : Hid (HWs w w0 (w.heap.size + 1) ⟨ry, ra, rp, rw'⟩) := hide (by rw [hw0]; exact ⟨HC0.out.2, HC0.out.1⟩)
  rw [← hw0]
  obtain ⟨b0, b1, b2, b3⟩ := HX0.out.box.cells
  clear HC0 hw0
  go_wp2_with fail
  refine (HCH.out w0).mono ?_
  rintro e w1 ⟨rfl, hB⟩
  have HX1 := hide (HX0.out.call hB)
  clear hB b0 b1 b2 b3
  go_wp2_with (go_at_call 8; with_reducible refine (num_ok _ _).mono ?_; rintro e w' ⟨rfl, rfl⟩)
  refine (HOR.out w1 HX1.out.bel).mono ?_
  rintro e w2 ⟨rfl, hB⟩
  have HX2 := hide (HX1.out.call hB)
  clear hB
  go_wp2_with (first
    | (go_at_call 8; with_reducible refine (num_ok _ _).mono ?_; rintro e w' ⟨rfl, rfl⟩)
    | (go_at_call 12; with_reducible refine (HNW.out _).mono ?_; rintro e w' ⟨rfl, rfl⟩))
  refine (works_ok _).mono ?_
  rintro e w9 ⟨rfl, hB⟩
  go_wp2
  go_ret
  exact ⟨rfl, (HX2.out.call hB).bel⟩

set_option maxHeartbeats 6400000 in
set_option maxRecDepth 100000 in
theorem holds_later (r : R4) (now later at0 : Int) (a : Option Addr) (c : Nat) (l : List P3) (w : World) (hn : l.length ≤ 9223372036854775807) (hp : PcsAt w a l) (h60 : l.length ≤ 60) (h1 : chkB r = true) (h2 : ordE l = 0) (h3 : inB now 9007199254740992 = true) (h : inB later 9007199254740992 = false) :
    Calls Try.prog 5 #[.agg (caseV r now later at0 a l.length c)] w fun e w' => e = .returned (.bool true) ∧ Below w.heap.size w w' := by
  have HC0 := hide (case_new w (caseV r now later at0 a l.length c) r)
  have HCH := hide (Check_ok r)
  have HOR := hide (fun (w' : World) (hB : Below w.heap.size w w') => Ordered_ok a c l w' hn (hp.below hB (Nat.le_refl _)))
  have HNW := hide (now_ok now)
  have HNL := hide (now_ok later)
  unfold chkE at HCH
  have d1 : decide ((60 : Int) < (l.length : Int)) = false := decide_eq_false (by omega)
  have d1' : decide (60 < l.length) = false := decide_eq_false (by omega)
  rw [h1] at HCH
  rw [h2] at HOR
  rw [h3] at HNW
  rw [h] at HNL
  clear hp hn h h1 h2 h3
  obtain ⟨ry, ra, rp, rw'⟩ := r
  unfold caseV ruleV at *
  generalize l.length = n at *
  go_enter Try.func5, Try.ntmps5
  go_wp2_with fail
  go_big_region
  obtain ⟨w0, hw0⟩ : ∃ w0, w0 = ((w.alloc (.cells #[.int .i64 ry, .int .i64 ra, .int .i64 rp, .int .i64 rw', .int .i64 now, .int .i64 later, .int .i64 at0, .slice a n c] 34)).alloc (.cells #[.int .i64 ry, .int .i64 ra, .int .i64 rp, .int .i64 rw'] 29)).drew := ⟨_, rfl⟩
  have HX0 : Hid (HWs w w0 (w.heap.size + 1) ⟨ry, ra, rp, rw'⟩) := hide (by rw [hw0]; exact ⟨HC0.out.2, HC0.out.1⟩)
  rw [← hw0]
  obtain ⟨b0, b1, b2, b3⟩ := HX0.out.box.cells
  clear HC0 hw0
  go_wp2_with fail
  refine (HCH.out w0).mono ?_
  rintro e w1 ⟨rfl, hB⟩
  have HX1 := hide (HX0.out.call hB)
  clear hB b0 b1 b2 b3
  go_wp2_with (go_at_call 8; with_reducible refine (num_ok _ _).mono ?_; rintro e w' ⟨rfl, rfl⟩)
  refine (HOR.out w1 HX1.out.bel).mono ?_
  rintro e w2 ⟨rfl, hB⟩
  have HX2 := hide (HX1.out.call hB)
  clear hB
  go_wp2_with (first
    | (go_at_call 8; with_reducible refine (num_ok _ _).mono ?_; rintro e w' ⟨rfl, rfl⟩)
    | (go_at_call 12; with_reducible refine (HNW.out _).mono ?_; rintro e w' ⟨rfl, rfl⟩)
    | (go_at_call 12; with_reducible refine (HNL.out _).mono ?_; rintro e w' ⟨rfl, rfl⟩))
  refine (works_ok _).mono ?_
  rintro e w9 ⟨rfl, hB⟩
  go_wp2
  go_ret
  exact ⟨rfl, (HX2.out.call hB).bel⟩

end Go.Proofs.Ytjgdegkjkedfcaa
