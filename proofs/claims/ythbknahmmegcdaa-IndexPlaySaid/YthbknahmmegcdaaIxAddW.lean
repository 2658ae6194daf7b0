/- The walk of index's Add. -/
import Derived.Test.YthbknahmmegcdaaIxMay
import Derived.Deep.AppendLies
import Derived.Deep.RegionLaw
namespace Go.Proofs.Ythbknahmmegcdaa
open Go.RowKit

/-- is it too near the last? -/
def nearB (st : Int) (l : List S2) (s : S2) : Bool := !decide (l.length = 0) && decide (s.p - (lastS l).p < st)
def addB (st : Int) (l : List S2) (s : S2) : Bool := mayB l s && !nearB st l s
def addE (l : List S2) (s : S2) : Int := if mayB l s then 0 else 2
def addL (st : Int) (l : List S2) (s : S2) : List S2 := if addB st l s then l ++ [s] else l
/-- all but an index's own box and its row are as they were -/
structure KeptX (w w' : World) (g : Nat) (rb : Option Nat) : Prop where
  os : w'.os = w.os
  tape : w'.tape = w.tape
  output : w'.output = w.output
  size : w.heap.size ≤ w'.heap.size
  block : ∀ j, j < w.heap.size → j ≠ g → some j ≠ rb → w'.heap[j]? = w.heap[j]?
theorem KeptX.of_below {w w' : World} (h : Below w.heap.size w w') (g : Nat) (rb : Option Nat) : KeptX w w' g rb := ⟨h.os, h.tape, h.output, h.size, fun j hj _ _ => h.block j hj⟩
theorem KeptX.trans {a b c : World} {g : Nat} {rb : Option Nat} (h : KeptX a b g rb) (k : KeptX b c g rb) : KeptX a c g rb :=
  ⟨k.os.trans h.os, k.tape.trans h.tape, k.output.trans h.output, Nat.le_trans h.size k.size, fun j hj h1 h2 => (k.block j (Nat.lt_of_lt_of_le hj h.size) h1 h2).trans (h.block j hj h1 h2)⟩
theorem KeptX.of_grown {w w' : World} {rb : Option Nat} (h : w.grownBy w' rb) (g : Nat) : KeptX w w' g rb := ⟨h.os, h.tape, h.output, h.size, fun j hj _ h2 => h.block j hj h2⟩
theorem KeptX.of_set (w : World) (g j : Nat) (u : Value) (rb : Option Nat) : KeptX w (w.setCell ⟨g, j, none⟩ u) g rb :=
  ⟨rfl, rfl, rfl, by simp [World.setCell], fun k _ hk _ => Below.heap_setCell _ _ _ k hk⟩
theorem KeptX.below {w0 w w' : World} {B g : Nat} {rb : Option Nat} (h : KeptX w w' g rb) (hb : Below B w0 w) (hB : B ≤ w.heap.size) (hg : B ≤ g) (hr : ∀ r, rb = some r → B ≤ r) : Below B w0 w' :=
  ⟨h.os.trans hb.os, h.tape.trans hb.tape, h.output.trans hb.output, Nat.le_trans hb.size h.size, fun i hi => (h.block i (Nat.lt_of_lt_of_le hi hB) (by omega) (fun e => by have := hr i e.symm; omega)).trans (hb.block i hi)⟩
theorem BoxI.not_row {w : World} {g : Nat} {st : Int} {u : Value} (h : BoxI w g st u) {base k : Nat} {v : Value} {xs : List Value} (hr : w.ownsRow base 31 2 v k xs) : v.ownBlock ≠ some g := by
  rcases hr.2 with ⟨rfl, _⟩ | ⟨b, cap, cur, rfl, _, hgb, _⟩
  · simp [Value.ownBlock]
  · intro e'
    obtain rfl : b = g := by simpa [Value.ownBlock] using e'
    have := (show w.heap[b]? = _ from h).symm.trans hgb
    simp at this
theorem Try.infoS : (Try.prog.info? 31).map (fun i => (i.zero, i.size, i.bytes)) = some (some (.agg #[.int .i64 0, .int .i64 0]), 2, 16) := by kernel_rfl
theorem info_spot : ∃ i, Try.prog.info? 31 = some i ∧ i.zero = some (.agg #[.int .i64 0, .int .i64 0]) ∧ i.size = 2 ∧ i.bytes = 16 := by
  have h := Try.infoS
  cases e : Try.prog.info? 31 with
  | none => rw [e] at h; cases h
  | some i =>
    rw [e, Option.map_some] at h
    injection h with h
    injection h with h1 h2
    injection h2 with h2 h3
    exact ⟨i, rfl, h1, h2, h3⟩

theorem Add_nil (s : S2) (w : World) : Calls Try.prog 10 #[.pointer none, .agg (spotV s)] w fun e w' => e = .returned (.tuple #[.bool false, .int .i64 1]) ∧ Below w.heap.size w w' := by
  have HB := hide ((Below.refl w.heap.size w).alloc (Nat.le_refl _) (.cells (spotV s) 31))
  unfold spotV at HB ⊢
  go_enter Try.func10, Try.ntmps10
  go_wp2_with (go_at_call 26; with_reducible refine (none_nil _).mono ?_; rintro e w' ⟨rfl, rfl⟩)
  go_ret2
  exact ⟨rfl, HB.out⟩
theorem Add_zero (s : S2) {w : World} {g : Nat} {v : Value} (h : BoxI w g 0 v) : Calls Try.prog 10 #[.pointer (some ⟨g, 0, none⟩), .agg (spotV s)] w fun e w' => e = .returned (.tuple #[.bool false, .int .i64 1]) ∧ Below w.heap.size w w' := by
  have HB := hide ((Below.refl w.heap.size w).alloc (Nat.le_refl _) (.cells (spotV s) 31))
  have HN := hide (none_ok (h.same HB.out))
  unfold spotV at HB HN ⊢
  clear h
  go_enter Try.func10, Try.ntmps10
  go_wp2_with (go_at_call 26; refine HN.out.mono ?_; rintro e w' ⟨rfl, rfl⟩)
  go_ret2
  exact ⟨rfl, HB.out⟩

set_option maxHeartbeats 3200000 in
set_option maxRecDepth 100000 in
theorem Add_ok {w : World} {base g : Nat} {st : Int} {l : List S2} {v : Value} (h : IxAt w base g st l v) (hst : st ≠ 0) (hn : l.length ≤ 1000000) (hlo : l.length ≠ 0 → 0 ≤ (lastS l).p) (hbase : base ≤ w.heap.size) (s : S2) :
    Calls Try.prog 10 #[.pointer (some ⟨g, 0, none⟩), .agg (spotV s)] w fun e w' =>
      ∃ v', e = .returned (.tuple #[.bool (addB st l s), .int .i64 (addE l s)]) ∧ IxAt w' base g st (addL st l s) v' ∧ KeptX w w' g v.ownBlock ∧ (v'.ownBlock = v.ownBlock ∨ ∃ r, v'.ownBlock = some r ∧ w.heap.size ≤ r) := by
  obtain ⟨rB, hrB⟩ : ∃ x, x = addB st l s := ⟨_, rfl⟩
  obtain ⟨rE, hrE⟩ : ∃ x, x = addE l s := ⟨_, rfl⟩
  obtain ⟨rL, hrL⟩ : ∃ x, x = addL st l s := ⟨_, rfl⟩
  rw [← hrB, ← hrE, ← hrL]
  have HX0 := hide (ISt.new h s)
  have q0 : (st == 0) = false := beq_eq_false_iff_ne.2 hst
  have HMAY := hide (fun (w' : World) (h : IxAt w' base g st l v) => may_ok h (by omega) s)
  have HBX := hide (fun (w' : World) (h : IxAt w' base g st l v) => none_ok h.box)
  have HNOW : Hid (rB = false → ∀ w', Below w.heap.size w w' → IxAt w' base g st l v → ∃ v', IxAt w' base g st rL v' ∧ KeptX w w' g v.ownBlock ∧ (v'.ownBlock = v.ownBlock ∨ ∃ r, v'.ownBlock = some r ∧ w.heap.size ≤ r)) := hide (fun hb w' hB hI => by
    have e : rL = l := by rw [hrL]; unfold addL; rw [← hrB, hb]; rfl
    rw [e]
    exact ⟨v, hI, .of_below hB _ _, .inl rfl⟩)
  have HL0 : Hid (rB = false → rL = l) := hide (fun hb => by rw [hrL]; unfold addL; rw [← hrB, hb]; rfl)
  unfold addB at hrB
  unfold addE at hrE
  rw [q0] at HBX
  cases hm : mayB l s with
  | false =>
    rw [hm] at HMAY hrB hrE
    obtain rfl : rB = false := hrB
    obtain rfl : rE = 2 := hrE
    clear hrL hst hn hlo h
    obtain ⟨so, sp⟩ := s
    unfold spotV at *
    obtain ⟨b0, b1⟩ := HX0.out.box.cells
    go_enter Try.func10, Try.ntmps10
    go_wp2_with (go_at_call 26; refine (HBX.out _ HX0.out.ix).mono ?_; rintro e w' ⟨rfl, rfl⟩)
    refine (HMAY.out _ HX0.out.ix).mono ?_
    rintro e w2 ⟨rfl, hB⟩
    have HX1 := hide (HX0.out.call hB)
    clear hB b0 b1
    go_wp2_with fail
    go_ret2
    obtain ⟨v', h1, h2, h3⟩ := HNOW.out (by simp) _ HX1.out.bel HX1.out.ix
    first | exact ⟨v', rfl, h1, h2, h3⟩ | exact ⟨rfl, v', h1, h2, h3⟩
  | true =>
    rw [hm] at HMAY hrB hrE
    obtain rfl : rE = 0 := hrE
    rw [Bool.true_and] at hrB
    have hms : 0 ≤ s.p ∧ s.p ≤ 16777216 := by
      unfold mayB at hm
      simp only [Bool.and_eq_true, decide_eq_true_eq] at hm
      exact hm.1.2.2
    have hmp : l.length ≠ 0 → (lastS l).p < s.p := fun h0 => by
      unfold mayB at hm
      simp only [Bool.and_eq_true, Bool.or_eq_true, decide_eq_true_eq] at hm
      rcases hm.2 with h | h
      · omega
      · exact h.2
    have HL1 : Hid (rB = true → rL = l ++ [s]) := hide (fun hb => by rw [hrL]; unfold addL addB; rw [hm, Bool.true_and, ← hrB, hb]; rfl)
    clear hrL hm
    obtain ⟨i0, hi, hz0, hz1, hz2⟩ := info_spot
    have hown := fun (w' : World) (h : IxAt w' base g st l v) => h.own
    have HOWN : Hid (∀ w', IxAt w' base g st l v → w'.ownsRow base 31 2 v l.length (spotCells l)) := hide (fun w' h => h.own)
    have HNR : Hid (v.ownBlock ≠ some g) := hide (h.box.not_row h.own)
    have HROW := hide (fun hn => h.own.row hn)
    have HAPP : Hid (∀ (w2 w3 : World) (g2 cap : Nat), Below w.heap.size w w2 → BoxI w2 g st v → w2.grownBy w3 v.ownBlock → w3.ownsRow base 31 2 (.slice (some ⟨g2, 0, none⟩) (l.length + 1) cap) (l.length + 1) (spotCells l ++ [.int .i64 s.o, .int .i64 s.p]) → (v.ownBlock = some g2 ∨ g2 = w2.heap.size) → rB = true →
        BoxI w3 g st v ∧ ∃ v', IxAt (w3.setCell ⟨g, 1, none⟩ (.slice (some ⟨g2, 0, none⟩) (l.length + 1) cap)) base g st rL v' ∧ KeptX w (w3.setCell ⟨g, 1, none⟩ (.slice (some ⟨g2, 0, none⟩) (l.length + 1) cap)) g v.ownBlock ∧ (v'.ownBlock = v.ownBlock ∨ ∃ r, v'.ownBlock = some r ∧ w.heap.size ≤ r)) := hide (fun w2 w3 g2 cap hB hbx hgr hown hat hb => by
      have hb3 : BoxI w3 g st v := (hgr.block g hbx.lt (fun e => HNR.out e.symm)).trans hbx
      refine ⟨hb3, .slice (some ⟨g2, 0, none⟩) (l.length + 1) cap, ?_, ((KeptX.of_below hB g _).trans (KeptX.of_grown hgr g)).trans (KeptX.of_set _ _ _ _ _), ?_⟩
      · rw [HL1.out hb]
        refine ⟨hb3.set1 _, ?_⟩
        unfold OwnSpots
        rw [List.length_append, List.length_singleton, spotCells_append]
        have hne : (Value.slice (some ⟨g2, 0, none⟩) (l.length + 1) cap).ownBlock ≠ some g := hb3.not_row hown
        exact World.ownsRow.kept hown (row := some g) ⟨rfl, rfl, rfl, by simp [World.setCell], fun k _ hk => Below.heap_setCell _ _ _ k (fun e => hk (by rw [e]))⟩ (.inr hne)
      · rcases hat with hat | hat
        · exact .inl hat.symm
        · exact .inr ⟨g2, rfl, by rw [hat]; exact hB.size⟩)
    have HSL := hide (spotCells_length l)
    clear hown
    obtain ⟨so, sp⟩ := s
    dsimp only at hms hmp HAPP
    unfold spotV at HX0 HMAY ⊢
    have hnr : nearB st l ⟨so, sp⟩ = (!decide (l.length = 0) && decide (sp - (lastS l).p < st)) := rfl
    rw [hnr] at hrB
    obtain ⟨ao, cap, rfl, hcap, _, _, _⟩ := h.own.any
    obtain ⟨lp, hlp⟩ : ∃ x, x = (lastS l).p := ⟨_, rfl⟩
    rw [← hlp] at hlo hmp hrB
    have HSP : Hid (∀ (w' : World), 0 < l.length → IxAt w' base g st l (.slice ao l.length cap) → ∃ rb, ao = some ⟨rb, 0, none⟩ ∧ w'.cell? ⟨rb, (l.length - 1) * 2 + 1, none⟩ = some (.int .i64 lp)) := hide (fun w' h0 h => by
      obtain ⟨rb, c', e, _, _, _, h2⟩ := h.own.row h0
      injection e with e
      obtain ⟨b, o2, e2, h3, h4⟩ := h2 (l.length - 1) (by omega)
      injection e2 with e2
      injection e2 with e3 e4
      subst e3 e4
      rw [Nat.zero_add] at h4
      exact ⟨_, e, by rw [h4, hlp]; rfl⟩)
    clear hlp hnr h
    generalize hnn : l.length = n at *
    obtain ⟨b0, b1⟩ := HX0.out.box.cells
    go_enter Try.func10, Try.ntmps10
    go_wp2_with (go_at_call 26; refine (HBX.out _ HX0.out.ix).mono ?_; rintro e w' ⟨rfl, rfl⟩)
    refine (HMAY.out _ HX0.out.ix).mono ?_
    rintro e w2 ⟨rfl, hB⟩
    have HX1 := hide (HX0.out.call hB)
    clear hB b0 b1
    have hx1 := HX1.out.ix.box.cell1
    go_upto_region 6 with fail
    clear hx1
    have finish : ∀ (w3 : World), Hid (ISt w w3 w.heap.size ⟨so, sp⟩ base g st l (.slice ao n cap)) → rB = true → True := fun _ _ _ => trivial
    by_cases hz : n = 0
    · have q1 : decide ((0 : Int) < (n : Int)) = false := decide_eq_false (by omega)
      have q1' : decide (0 < n) = false := decide_eq_false (by omega)
      obtain rfl : rB = true := by rw [hrB, decide_eq_true hz]; rfl
      clear hrB hz
      go_quiet (fail)
      have HX2 := hide (HX1.out.drewN nq)
      generalize w2.drewN nq = w3 at *
      go_wp2_with fail
      have c2 : (w3.alloc (.cells #[.int .i64 so, .int .i64 sp] 31)).drew.cell? ⟨g, 1, none⟩ = some (.slice ao n cap) := (HX2.out.ix.call ((Below.refl w3.heap.size w3).alloc (Nat.le_refl _) (.cells #[.int .i64 so, .int .i64 sp] 31)).drew).box.cell1
      have c1 : w3.drew.cell? ⟨g, 1, none⟩ = some (.slice ao n cap) := HX2.out.ix.box.cell1
      have b0 : w3.drew.cell? ⟨w.heap.size, 0, none⟩ = some (.int .i64 so) := HX2.out.box.cells.1
      have b1 : w3.drew.cell? ⟨w.heap.size, 1, none⟩ = some (.int .i64 sp) := HX2.out.box.cells.2
      go_region_law (refine step_append_lies _ rfl (.tmp 45) (.tmp 47) 39 rfl base 31 i0 (.agg #[.int .i64 0, .int .i64 0]) 2 16 Try.underlying39 hi hz0 hz1 hz2 rfl (by decide) (.slice ao n cap) n (spotCells l) (by simp [Act.eval]) (HOWN.out _ (HX2.out.ix.call ((Below.refl _ _).alloc (Nat.le_refl _) _).drew)) ⟨w3.heap.size, 0, none⟩ 1 1 [.int .i64 so, .int .i64 sp] (by simp [Act.eval]) (by simp) (World.news_of_block (heap_alloc_new w3 (.cells #[.int .i64 so, .int .i64 sp] 31))) (by intro u hu; simp at hu; rcases hu with rfl | rfl <;> rfl) (by omega) (by unfold maxLen; omega) (by omega) (by simp; have := HX2.out.bel.size; omega) _ rfl ?_; intro g2 cap2 w4 hown hgrow hat hlt; have HA := HAPP.out _ w4 g2 cap2 (HX2.out.bel.trans ((((Below.refl w3.heap.size w3).alloc (Nat.le_refl _) (.cells #[.int .i64 so, .int .i64 sp] 31)).drew).mono HX2.out.bel.size)) (HX2.out.ix.box.same (((Below.refl w3.heap.size w3).alloc (Nat.le_refl _) (.cells #[.int .i64 so, .int .i64 sp] 31)).drew)) hgrow hown hat (by simp); have HB := hide HA; have k1 := HA.1.cell1; have f1 := HA.1.free 1; clear HA hown hgrow hat hlt)
      all_goals (go_wp2_with fail; go_ret2; obtain ⟨v', h1, h2, h3⟩ := HB.out.2; first | exact ⟨v', rfl, h1, h2, h3⟩ | exact ⟨rfl, v', h1, h2, h3⟩)
    · have q1 : decide ((0 : Int) < (n : Int)) = true := decide_eq_true (by omega)
      have q1' : decide (0 < n) = true := decide_eq_true (by omega)
      obtain ⟨rb, rfl, m1⟩ := HSP.out w2 (by omega) HX1.out.ix
      have c1 := HX1.out.ix.box.cell1
      have c0 := HX1.out.ix.box.cell0
      obtain ⟨b0, b1⟩ := HX1.out.box.cells
      have hlo1 := hlo hz
      have hmp1 := hmp hz
      have hw1 : IntKind.i64.wrap ((n : Int) - 1) = ((n - 1 : Nat) : Int) := by rw [IntKind.wrap_i64]; omega
      have hw2 : IntKind.i64.wrap (sp - lp) = sp - lp := by rw [IntKind.wrap_i64]; omega
      have hi1 : ((n - 1 : Nat) : Int) < (n : Int) := by omega
      have hi2 : n - 1 < n := by omega
      rw [decide_eq_false hz, Bool.not_false, Bool.true_and] at hrB
      by_cases hnear : sp - lp < st
      · have q2 : decide (sp - lp < st) = true := decide_eq_true hnear
        obtain rfl : rB = false := by rw [hrB, q2]; rfl
        clear hrB hnear hlo hmp hlo1 hmp1
        go_quiet (fail)
        have HX2 := hide (HX1.out.drewN nq)
        go_wp2_with fail
        go_ret2
        have e : rL = l := by first | exact HL0.out rfl | exact HL0.out | exact HL0.out (by simp)
        first | exact ⟨_, rfl, (by rw [e]; exact HX2.out.ix), .of_below HX2.out.bel _ _, .inl rfl⟩ | exact ⟨rfl, _, (by rw [e]; exact HX2.out.ix), .of_below HX2.out.bel _ _, .inl rfl⟩
      · have q2 : decide (sp - lp < st) = false := decide_eq_false hnear
        obtain rfl : rB = true := by rw [hrB, q2]; rfl
        clear hrB hnear hlo hmp hlo1 hmp1
        go_quiet (fail)
        have HX2 := hide (HX1.out.drewN nq)
        clear m1 c1 c0 b0 b1 hw1 hw2 hi1 hi2 q1 q1' q2
        generalize w2.drewN nq = w3 at *
        go_wp2_with fail
        have c2 : (w3.alloc (.cells #[.int .i64 so, .int .i64 sp] 31)).drew.cell? ⟨g, 1, none⟩ = some (.slice (some ⟨rb, 0, none⟩) n cap) := (HX2.out.ix.call ((Below.refl w3.heap.size w3).alloc (Nat.le_refl _) (.cells #[.int .i64 so, .int .i64 sp] 31)).drew).box.cell1
        have c1 : w3.drew.cell? ⟨g, 1, none⟩ = some (.slice (some ⟨rb, 0, none⟩) n cap) := HX2.out.ix.box.cell1
        have b0 : w3.drew.cell? ⟨w.heap.size, 0, none⟩ = some (.int .i64 so) := HX2.out.box.cells.1
        have b1 : w3.drew.cell? ⟨w.heap.size, 1, none⟩ = some (.int .i64 sp) := HX2.out.box.cells.2
        go_region_law (refine step_append_lies _ rfl (.tmp 45) (.tmp 47) 39 rfl base 31 i0 (.agg #[.int .i64 0, .int .i64 0]) 2 16 Try.underlying39 hi hz0 hz1 hz2 rfl (by decide) (.slice (some ⟨rb, 0, none⟩) n cap) n (spotCells l) (by simp [Act.eval]) (HOWN.out _ (HX2.out.ix.call ((Below.refl _ _).alloc (Nat.le_refl _) _).drew)) ⟨w3.heap.size, 0, none⟩ 1 1 [.int .i64 so, .int .i64 sp] (by simp [Act.eval]) (by simp) (World.news_of_block (heap_alloc_new w3 (.cells #[.int .i64 so, .int .i64 sp] 31))) (by intro u hu; simp at hu; rcases hu with rfl | rfl <;> rfl) (by omega) (by unfold maxLen; omega) (by omega) (by simp; have := HX2.out.bel.size; omega) _ rfl ?_; intro g2 cap2 w4 hown hgrow hat hlt; have HA := HAPP.out _ w4 g2 cap2 (HX2.out.bel.trans ((((Below.refl w3.heap.size w3).alloc (Nat.le_refl _) (.cells #[.int .i64 so, .int .i64 sp] 31)).drew).mono HX2.out.bel.size)) (HX2.out.ix.box.same (((Below.refl w3.heap.size w3).alloc (Nat.le_refl _) (.cells #[.int .i64 so, .int .i64 sp] 31)).drew)) hgrow hown hat (by simp); have HB := hide HA; have k1 := HA.1.cell1; have f1 := HA.1.free 1; clear HA hown hgrow hat hlt)
        all_goals (go_wp2_with fail; go_ret2; obtain ⟨v', h1, h2, h3⟩ := HB.out.2; first | exact ⟨v', rfl, h1, h2, h3⟩ | exact ⟨rfl, v', h1, h2, h3⟩)
end Go.Proofs.Ythbknahmmegcdaa
