/- The law's tells: an index tells what the reference has. -/
import Derived.Test.YthbknahmmegcdaaIxStr
import Derived.Test.YthbknahmmegcdaaIxRefBytes
import Derived.Test.YthbknahmmegcdaaRound
import Derived.Test.YthbknahmmegcdaaIxCutsPlain
import Derived.Maps.AppendAt
import Derived.LoopNIn
namespace Go.Proofs.Ythbknahmmegcdaa
open Go.RowKit Go.Shelf
set_option linter.unusedVariables false

/-- the reference's box and the result's -/
structure TW (w : World) (gr : Nat) (b : Bool) (W : World) : Prop where
  bel : Below w.heap.size w W
  rb : W.heap[w.heap.size]? = some (.cells #[.pointer (some ⟨gr, 0, none⟩)] 49 (0, 0))
  res : W.heap[w.heap.size + 1]? = some (.cells #[.bool b] 4 (0, 0))
theorem TW.new (w : World) (gr : Nat) : TW w gr false ((w.alloc (.cells #[.pointer (some ⟨gr, 0, none⟩)] 49)).alloc (.cells #[.bool false] 4)) := by
  have k1 : (w.alloc (.cells #[.pointer (some ⟨gr, 0, none⟩)] 49)).heap.size = w.heap.size + 1 := by simp
  refine ⟨((Below.refl w.heap.size w).alloc (Nat.le_refl _) _).alloc (by simp) _, ?_, ?_⟩
  · exact (((Below.refl _ _).alloc (Nat.le_refl _) _).block w.heap.size (by simp)).trans (heap_alloc_new w _)
  · rw [← k1]; exact heap_alloc_new _ _
theorem TW.call {w W W' : World} {gr : Nat} {b : Bool} (h : TW w gr b W) (hB : Below W.heap.size W W') : TW w gr b W' :=
  ⟨h.bel.trans (hB.mono h.bel.size), (hB.block _ (Array.getElem?_eq_some_iff.1 h.rb).1).trans h.rb, (hB.block _ (Array.getElem?_eq_some_iff.1 h.res).1).trans h.res⟩
theorem TW.drew {w W : World} {gr : Nat} {b : Bool} (h : TW w gr b W) : TW w gr b W.drew := h.call (Below.refl _ _).drew
theorem TW.cell {w W : World} {gr : Nat} {b : Bool} (h : TW w gr b W) : W.cell? ⟨w.heap.size, 0, none⟩ = some (.pointer (some ⟨gr, 0, none⟩)) := by rw [cell_of_row _ _ _ _ _ _ h.rb]; rfl
theorem TW.rcell {w W : World} {gr : Nat} {b : Bool} (h : TW w gr b W) : W.cell? ⟨w.heap.size + 1, 0, none⟩ = some (.bool b) ∧ W.frozen? ⟨w.heap.size + 1, 0, none⟩ = false := ⟨by rw [cell_of_row _ _ _ _ _ _ h.res]; rfl, frozen_of_row _ _ _ _ _ h.res⟩
theorem TW.lt {w W : World} {gr : Nat} {b : Bool} (h : TW w gr b W) : w.heap.size + 1 < W.heap.size := (Array.getElem?_eq_some_iff.1 h.res).1
/-- what is read of the reference -/
theorem TW.ref {w W : World} {gr : Nat} {b : Bool} {st : Int} {ao : Option Addr} {cap : Nat} {l : List S2} (h : TW w gr b W) (hr : RefAt w gr st ao cap l) :
    W.cell? ⟨w.heap.size, 0, none⟩ = some (.pointer (some ⟨gr, 0, none⟩)) ∧ W.cell? ⟨gr, 1, none⟩ = some (.slice ao l.length cap) := ⟨h.cell, (hr.call h.bel).cells.2⟩

/-- the result stored, the two deferred blocks taken -/
theorem tells_end {w W : World} {gr D D2 : Nat} {b : Bool} (h : TW w gr b W) (k1 : W.heap[D]? = some (.deferred (some []))) (k2 : W.heap[D2]? = some (.deferred (some []))) (l1 : w.heap.size + 1 < D) (l2 : D < D2) (c : Bool) :
    (W.setCell ⟨w.heap.size + 1, 0, none⟩ (.bool c)).heap[D2]? = some (.deferred (some [])) ∧ ((W.setCell ⟨w.heap.size + 1, 0, none⟩ (.bool c)).putObj D2 (.deferred none)).heap[D]? = some (.deferred (some [])) ∧
    (((W.setCell ⟨w.heap.size + 1, 0, none⟩ (.bool c)).putObj D2 (.deferred none)).putObj D (.deferred none)).cell? ⟨w.heap.size + 1, 0, none⟩ = some (.bool c) ∧
    Below w.heap.size w (((W.setCell ⟨w.heap.size + 1, 0, none⟩ (.bool c)).putObj D2 (.deferred none)).putObj D (.deferred none)) := by
  have e : (W.setCell ⟨w.heap.size + 1, 0, none⟩ (.bool c)).heap[w.heap.size + 1]? = some (.cells #[.bool c] 4 (0, 0)) := by
    rw [setCell_eq_setRow _ _ 0 _ _ _ _ h.res]
    exact setRow_heap _ _ _ _ _ _ h.res
  have o : ∀ k, k ≠ w.heap.size + 1 → (W.setCell ⟨w.heap.size + 1, 0, none⟩ (.bool c)).heap[k]? = W.heap[k]? := fun k hk => Below.heap_setCell _ _ _ k hk
  have hB := h.bel.setCell (p := ⟨w.heap.size + 1, 0, none⟩) (by show w.heap.size ≤ w.heap.size + 1; omega) (.bool c)
  generalize W.setCell ⟨w.heap.size + 1, 0, none⟩ (.bool c) = W1 at *
  have d1 : W1.heap[D]? = some (.deferred (some [])) := (o D (by omega)).trans k1
  have d2 : W1.heap[D2]? = some (.deferred (some [])) := (o D2 (by omega)).trans k2
  refine ⟨d2, (World.putObj_heap_other (by omega)).trans d1, ?_, ?_⟩
  · have e : ((W1.putObj D2 (.deferred none)).putObj D (.deferred none)).heap[w.heap.size + 1]? = some (.cells #[.bool c] 4 (0, 0)) :=
      (World.putObj_heap_other (by omega)).trans ((World.putObj_heap_other (by omega)).trans e)
    rw [cell_of_row _ _ _ _ _ _ e]
    rfl
  · have s1 : w.heap.size ≤ W1.heap.size := hB.size
    have g1 : Below w.heap.size W1 (W1.putObj D2 (.deferred none)) := (Below.refl w.heap.size _).grown (grownBy_putObj' _ D2 (.deferred none)) s1 (by intro k e; cases e; omega)
    have g2 : Below w.heap.size (W1.putObj D2 (.deferred none)) ((W1.putObj D2 (.deferred none)).putObj D (.deferred none)) := (Below.refl w.heap.size _).grown (grownBy_putObj' _ D (.deferred none)) (Nat.le_trans s1 g1.size) (by intro k e; cases e; omega)
    exact hB.trans (g1.trans g2)
theorem _root_.Go.RowKit.Boxed.bel {W W' : World} {B : Nat} {t : TypeId} {v : Value} (h : Boxed W B t v) (hB : Below W.heap.size W W') : Boxed W' B t v := (hB.block B h.lt).trans h
attribute [local go_sem] Oper.semAt_some

set_option maxRecDepth 100000 in
set_option maxHeartbeats 8000000 in
theorem tells_ok {w : World} {base g gr : Nat} {st : Int} {ao : Option Addr} {cap : Nat} {l : List S2} {v : Value} (hx : IxAt w base g st l v) (hr : RefAt w gr st ao cap l) (h1 : 1 ≤ st) (h2 : st ≤ 16777216) (hn : l.length ≤ 8000) :
    Calls Try.prog 20 #[.pointer (some ⟨g, 0, none⟩), .pointer (some ⟨gr, 0, none⟩)] w fun e w' => e = .returned (.bool true) ∧ Below w.heap.size w w' := by
  have HX := hide hx
  have HR := hide hr
  have HST : Hid (st ≠ 0) := hide (by omega)
  have HN := hide hn
  have H1 := hide h1
  have H2 := hide h2
  clear hx hr h1 h2
  obtain ⟨w0, hw0⟩ : ∃ w0, w0 = (w.alloc (.cells #[.pointer (some ⟨gr, 0, none⟩)] 49)).alloc (.cells #[.bool false] 4) := ⟨_, rfl⟩
  have HT0 : Hid (TW w gr false w0) := hide (by rw [hw0]; exact TW.new w gr)
  refine (callsIn_wide (n := 6)).1 ?_
  refine callsIn_of_wp_marks Try.func20 rfl trivial ?_
  simp only [Try.ntmps20, List.size_toArray, List.length_cons, List.length_nil, Nat.reduceAdd, Nat.reduceSub, Array.replicate_succ, Array.replicate_zero, List.push_toArray, List.append_toArray, List.nil_append, List.cons_append]
  gi_wp2_with fail
  rw [← hw0]
  clear hw0
  refine ⟨trivial, (callsIn_wide.2 (All_ok (HX.out.call HT0.out.bel) HST.out (by omega))).mono ?_⟩
  rintro e w1 ⟨B, a2, c2, rfl, hc, hs, hl, hu, ha, hB⟩
  have HT1 := hide (HT0.out.call hB)
  have HA := hide (And.intro hc (And.intro hs (And.intro hu ha)))
  clear hc hs hl hu ha hB HT0
  have hnil1 : ∀ w : World, (binOp BinOp.eql 36 (.func (.func 41) #[] #[.pointer (some ⟨B, 0, none⟩)]) .nilFunc).run Try.prog w = .ok (.bool false) w := fun _ => by kernel_rfl
  have HL := hide (Len_ok (HX.out.call HT1.out.drew.bel) HST.out)
  gi_wp2_with fail
  refine wpIn_wide.2 ?_
  go_region_held3 (fun W => W.cell? ⟨w.heap.size, 0, none⟩ = some (.pointer (some ⟨gr, 0, none⟩)) ∧ W.cell? ⟨gr, 1, none⟩ = some (.slice ao l.length cap))
    (first
      | exact HT1.out.drew.ref HR.out
      | fail)
    (first
      | (go_at_call 14; with_reducible refine HL.out.mono ?_; rintro e w' ⟨rfl, rfl⟩)
      | fail)
  clear HL
  gi_wp2_with fail
  obtain ⟨w2, hw2⟩ : ∃ w2, w2 = (w1.alloc (.cells #[.int .i64 0] 3)).drew := ⟨_, rfl⟩
  have hB2 : Below w1.heap.size w1 w2 := by rw [hw2]; exact ((Below.refl _ _).alloc (Nat.le_refl _) _).drew
  have bT : Boxed w2 w1.heap.size 3 (.int .i64 0) := by rw [hw2]; exact Boxed.new w1 _ _
  rw [← hw2]
  clear hw2
  have HT2 := hide (HT1.out.call hB2)
  have HA2 := hide (And.intro ((hB2.cell (p := ⟨B, 0, none⟩) HA.out.2.2.1).trans HA.out.1) (And.intro (HA.out.2.1.below hB2 (Nat.le_refl _)) (And.intro (Nat.lt_of_lt_of_le HA.out.2.2.1 hB2.size) (fun b off e => Nat.lt_of_lt_of_le (HA.out.2.2.2 b off e) hB2.size))))
  have HTB := hide bT
  have HLT : Hid (w.heap.size + 1 < w1.heap.size) := hide HT1.out.lt
  have b0 := bT.cell
  clear hB2 bT HA HT1
  generalize w1.heap.size = tb at *
  refine wpIn_loop_rounds 3 ?_
  rw [roundsIn_succ]
  gi_wp2_with fail
  obtain ⟨W0, hW0⟩ : ∃ W0, W0 = w2.alloc (.cells #[.int .i64 0] 3) := ⟨_, rfl⟩
  have hsz : W0.heap.size = w2.heap.size + 1 := by rw [hW0]; simp
  have hB0 : Below w2.heap.size w2 W0 := by rw [hW0]; exact (Below.refl _ _).alloc (Nat.le_refl _) _
  have bK : Boxed W0 w2.heap.size 3 (.int .i64 0) := by rw [hW0]; exact Boxed.new _ _ _
  rw [← hW0]
  clear hW0 b0
  have hL1 : l.length ≤ 1000000 := by have := HN.out; omega
  refine wpIn_rangeFunc_ownH rfl (by omega) (gf := 41) (lb := #[.pointer (some ⟨B, 0, none⟩)]) rfl trivial (enters_of Try.func41 (by kernel_rfl) rfl)
    (values_stops2 5 (by omega) B w2.heap.size a2 c2 l hL1 HA2.out.2.2.2 W0 (by omega) ((hB0.cell (p := ⟨B, 0, none⟩) HA2.out.2.2.1).trans HA2.out.1) (HA2.out.2.1.below hB0 (Nat.le_refl _)))
    belowK_t (belowK_b (by omega)) (Below.refl _ _) (fun _ => rfl)
    (fun pre W' => Boxed W' w2.heap.size 3 (.int .i64 (pre.length : Nat)) ∧ (pre = [] ∧ Below w2.heap.size w2 W'))
    (fun c pre W' => (c = .ret ∧ ∃ j, j < pre.length ∧ pre.getD j default ≠ l.getD j default) ∨ (c = .exit 2 ∧ Below w2.heap.size w2 W' ∧ Boxed W' w2.heap.size 3 (.int .i64 1)))
    (OwnFrom.and (Own.from (boxed_own w2.heap.size 3 (fun pre : List S2 => .int .i64 (pre.length : Nat))) _) (OwnFrom.and (ownFrom_pure _ _) (ownFrom_below (Nat.le_refl _) (by omega))))
    (fun c s X Y row hs hg hr => hs.imp id (fun h => ⟨h.1, ownFrom_below (Nat.le_refl _) (by omega) s X Y row h.2.1 hg hr, Own.from (boxed_own w2.heap.size 3 (fun _ : List S2 => .int .i64 1)) _ s X Y row h.2.2 hg hr⟩))
    ⟨bK, rfl, hB0⟩
    (AxS w2.heap.size ?frm) (AxS.own _ _ _)
    ?assign ?body ?done ?stop
  case assign =>
    rintro l0 pre s W2 K ⟨hb, hp, hB⟩ hK
    gi_wp2
    have hlt := hb.lt
    have hnb := heap_alloc_new W2 (.cells #[.int .i64 s.o, .int .i64 s.p] 31)
    refine hK _ _ ((KeepsOthers.alloc _ _).from _) ((Below.refl _ W2).alloc hB.size _) ⟨hb.alloc _, hp, hB.alloc hB.size _⟩ ⟨W2.heap.size, hlt, hnb, ?_⟩
    generalize W2.heap.size = Bx
    rfl
  case body =>
    rintro l0 pre s a' W2 hl ⟨r, hr⟩ ⟨hb, hp, hB⟩ ⟨Bx, hBx, bX, rfl⟩ hlt
    dsimp only
    subst hp
    have hz : 0 < l.length := hlt
    have ck : W2.cell? ⟨w2.heap.size, 0, none⟩ = some (.int .i64 0) := hb.cell
    have fk := hb.frozen
    have HBB := hide hb
    have HB2 := hide hB
    have HTW := hide (HT2.out.call hB)
    have b0 := (Boxed.bel HTB.out hB).cell
    have x0 : W2.cell? ⟨Bx, 0, none⟩ = some (.int .i64 s.o) := by rw [cell_of_row _ _ _ _ _ _ bX]; rfl
    have x1 : W2.cell? ⟨Bx, 1, none⟩ = some (.int .i64 s.p) := by rw [cell_of_row _ _ _ _ _ _ bX]; rfl
    obtain ⟨y0, y1⟩ := HTW.out.ref HR.out
    obtain ⟨r0, r1⟩ := HTW.out.rcell
    obtain ⟨bm, om, rfl, m0, m1⟩ := (HR.out.sp.below HTW.out.bel (Nat.le_refl _)) 0 hz
    rw [Nat.zero_mul, Nat.add_zero] at m0 m1
    have q1 : decide ((l.length : Int) ≤ 0) = false := decide_eq_false (by omega)
    have q1' : decide (l.length ≤ 0) = false := decide_eq_false (by omega)
    have q1'' : decide (l = []) = false := decide_eq_false (by intro e; rw [e] at hz; simp at hz)
    have hx1 : (0 : Int) < (l.length : Int) := by omega
    have HNE : Hid (s ≠ l.getD 0 default → ∃ j, j < ([] ++ [s]).length ∧ ([] ++ [s]).getD j default ≠ l.getD j default) := hide (fun h => ⟨0, by simp, by simpa using h⟩)
    clear hb hB
    generalize l.getD 0 default = m at *
    obtain ⟨mo, mp⟩ := m
    obtain ⟨so, sp⟩ := s
    dsimp only at *
    by_cases e1 : so = mo
    · by_cases e2 : sp = mp
      · subst e1 e2
        gi_wp2_with fail
        refine region_quiet_round (by kernel_rfl) (by kernel_rfl) (by kernel_rfl) ?_
        repeat (gi_big_quiet_step (fail))
        refine wpQuietIn_nil ?_
        rintro w' ⟨nq, rfl⟩
        have ck2 : (W2.drewN nq).cell? ⟨w2.heap.size, 0, none⟩ = some (.int .i64 0) := ck
        have fk2 : (W2.drewN nq).frozen? ⟨w2.heap.size, 0, none⟩ = false := fk
        have hk3 : ((W2.drewN nq).setCell ⟨w2.heap.size, 0, none⟩ (.int .i64 1)).cell? ⟨w2.heap.size, 0, none⟩ = some (.int .i64 1) := ((show Boxed (W2.drewN nq) w2.heap.size 3 _ from HBB.out).set (.int .i64 1)).cell
        have hb2 : Boxed W2 tb 3 (.int .i64 0) := Boxed.bel HTB.out HB2.out
        have hb3 : ((W2.drewN nq).setCell ⟨w2.heap.size, 0, none⟩ (.int .i64 1)).cell? ⟨tb, 0, none⟩ = some (.int .i64 0) := (Boxed.other (show Boxed (W2.drewN nq) tb 3 _ from hb2) (by have := HTB.out.lt; omega) _).cell
        gi_wp2
        exact ⟨(KeepsOthers.trans (show KeepsOthers W2 (W2.drewN nq) from ⟨Nat.le_refl _, fun _ _ h _ => h⟩) (KeepsOthers.setCell _ _ _)).from _, .inr ⟨rfl, (belowDrewN HB2.out nq).setCell (p := ⟨w2.heap.size, 0, none⟩) (Nat.le_refl _) _, (show Boxed (W2.drewN nq) w2.heap.size 3 _ from HBB.out).set (.int .i64 1)⟩⟩
      · have q2 : (sp == mp) = false := beq_eq_false_iff_ne.2 e2
        gi_wp2_with fail
        refine region_quiet_round (by kernel_rfl) (by kernel_rfl) (by kernel_rfl) ?_
        repeat (gi_big_quiet_step (fail))
        refine wpQuietIn_nil ?_
        rintro w' ⟨nq, rfl⟩
        have r0' : (W2.drewN nq).cell? ⟨w.heap.size + 1, 0, none⟩ = some (.bool false) := r0
        have r1' : (W2.drewN nq).frozen? ⟨w.heap.size + 1, 0, none⟩ = false := r1
        gi_wp2
        exact ⟨(KeepsOthers.trans (show KeepsOthers W2 (W2.drewN nq) from ⟨Nat.le_refl _, fun _ _ h _ => h⟩) (KeepsOthers.setCell _ _ _)).from _, .inl ⟨rfl, HNE.out (fun e => by injection e with h1 h2; exact e2 h2)⟩⟩
    · have q2 : (so == mo) = false := beq_eq_false_iff_ne.2 e1
      gi_wp2_with fail
      refine region_quiet_round (by kernel_rfl) (by kernel_rfl) (by kernel_rfl) ?_
      repeat (gi_big_quiet_step (fail))
      refine wpQuietIn_nil ?_
      rintro w' ⟨nq, rfl⟩
      have r0' : (W2.drewN nq).cell? ⟨w.heap.size + 1, 0, none⟩ = some (.bool false) := r0
      have r1' : (W2.drewN nq).frozen? ⟨w.heap.size + 1, 0, none⟩ = false := r1
      gi_wp2
      exact ⟨(KeepsOthers.trans (show KeepsOthers W2 (W2.drewN nq) from ⟨Nat.le_refl _, fun _ _ h _ => h⟩) (KeepsOthers.setCell _ _ _)).from _, .inl ⟨rfl, HNE.out (fun e => by injection e with h1 h2; exact e1 h1)⟩⟩
  case' stop =>
    rintro D c pre W3 hD ⟨k, hk, rfl⟩ hix hK
    have hB : c = .exit 2 ∧ Below w2.heap.size w2 W3 ∧ Boxed W3 w2.heap.size 3 (.int .i64 1) := by
      rcases hix with ⟨_, j, hj, hne⟩ | h
      · rw [List.length_take] at hj
        exact absurd (by rw [List.getD_eq_getElem?_getD, List.getElem?_take_of_lt (by omega), ← List.getD_eq_getElem?_getD]) hne
      · exact h
    obtain ⟨rfl, hB, hkb⟩ := hB
    clear hix hk
  case' done =>
    rintro D xs W3 hD hxs ⟨hkb, hp, hB⟩ hK
    subst hp
    clear hxs
  all_goals
    have hk := hkb.cell
    have hb2 := Boxed.bel HTB.out hB
    have b0 := hb2.cell
    gi_wp2_with fail
    refine wpIn_wide.2 ?_
    go_quiet (fail)
    have HK3 := hide hK
    have HB3 := hide hB
    have HD3 := hide hD
    clear hK hB hk hkb hb2 hD
    generalize hW4 : W3.drewN _ = W4
    have HB4 : Hid (Below w2.heap.size w2 W4) := hide (by rw [← hW4]; exact belowDrewN HB3.out _)
    have HK4 : Hid (W4.heap[D]? = some (.deferred (some []))) := hide (by rw [← hW4]; exact HK3.out)
    have b4 : W4.cell? ⟨tb, 0, none⟩ = some (.int .i64 0) := by rw [← hW4]; exact b0
    clear hW4 HK3 HB3 b0
    clear W3
    have HDW : Hid (w2.heap.size ≤ D) := hide (by have := HD3.out; omega)
    have HLW : Hid (w.heap.size + 1 < w2.heap.size) := hide HT2.out.lt
    clear HD3
    gi_wp2_with fail
    obtain ⟨W5, hW5⟩ : ∃ W5, W5 = W4.alloc (.cells #[.int .i64 1] 3) := ⟨_, rfl⟩
    have hB5 : Below w2.heap.size w2 W5 := by rw [hW5]; exact HB4.out.alloc HB4.out.size _
    have bT5 : Boxed W5 W4.heap.size 3 (.int .i64 1) := by rw [hW5]; exact Boxed.new _ _ _
    have hK5 : W5.heap[D]? = some (.deferred (some [])) := by rw [hW5]; exact (Below.heap_alloc _ _ _ (Array.getElem?_eq_some_iff.1 HK4.out).1).trans HK4.out
    rw [← hW5]
    clear hW5
    have HT5 := hide (HT2.out.call hB5)
    have HA5 := hide (And.intro ((hB5.cell (p := ⟨B, 0, none⟩) HA2.out.2.2.1).trans HA2.out.1) (And.intro (HA2.out.2.1.below hB5 (Nat.le_refl _)) (And.intro (Nat.lt_of_lt_of_le HA2.out.2.2.1 hB5.size) (fun b off e => Nat.lt_of_lt_of_le (HA2.out.2.2.2 b off e) hB5.size))))
    have HTB5 := hide bT5
    have HK5 := hide hK5
    have HB5 := hide hB5
    have b5 := bT5.cell
    clear hB5 bT5 hK5 HK4 HB4 HA2 b4
    generalize W4.heap.size = tb2 at *
    clear W4
    rw [roundsIn_succ]
    gi_wp2_with fail
    obtain ⟨W6, hW6⟩ : ∃ W6, W6 = W5.alloc (.cells #[.int .i64 0] 3) := ⟨_, rfl⟩
    have hsz6 : W6.heap.size = W5.heap.size + 1 := by rw [hW6]; simp
    have hB6 : Below W5.heap.size W5 W6 := by rw [hW6]; exact (Below.refl _ _).alloc (Nat.le_refl _) _
    have bK6 : Boxed W6 W5.heap.size 3 (.int .i64 0) := by rw [hW6]; exact Boxed.new _ _ _
    rw [← hW6]
    clear hW6 b5
    refine wpIn_rangeFunc_ownH rfl (by omega) (gf := 41) (lb := #[.pointer (some ⟨B, 0, none⟩)]) rfl trivial (enters_of Try.func41 (by kernel_rfl) rfl)
      (values_stops2 5 (by omega) B W5.heap.size a2 c2 l hL1 HA5.out.2.2.2 W6 (by omega) ((hB6.cell (p := ⟨B, 0, none⟩) HA5.out.2.2.1).trans HA5.out.1) (HA5.out.2.1.below hB6 (Nat.le_refl _)))
      belowK_t (belowK_b (by omega)) (Below.refl _ _) (fun _ => rfl)
      (fun pre W' => Boxed W' W5.heap.size 3 (.int .i64 (pre.length : Nat)) ∧ Below W5.heap.size W5 W')
      (fun c pre W' => c = .ret ∧ ∃ j, j < pre.length ∧ pre.getD j default ≠ l.getD j default)
      (OwnFrom.and (Own.from (boxed_own W5.heap.size 3 (fun pre : List S2 => .int .i64 (pre.length : Nat))) _) (ownFrom_below (Nat.le_refl _) (by omega)))
      (fun _ _ _ _ _ hs _ _ => hs)
      ⟨bK6, hB6⟩
      (AxS W5.heap.size ?_) (AxS.own _ _ _)
      ?assign2 ?body2 ?done2 ?stop2
    case assign2 =>
      rintro l0 pre s W2 K ⟨hb, hB⟩ hK
      gi_wp2
      have hlt := hb.lt
      have hnb := heap_alloc_new W2 (.cells #[.int .i64 s.o, .int .i64 s.p] 31)
      refine hK _ _ ((KeepsOthers.alloc _ _).from _) ((Below.refl _ W2).alloc hB.size _) ⟨hb.alloc _, hB.alloc hB.size _⟩ ⟨W2.heap.size, hlt, hnb, ?_⟩
      generalize W2.heap.size = Bx
      rfl
    case stop2 =>
      rintro D c pre W2 _ ⟨k, hk, rfl⟩ ⟨_, j, hj, hne⟩ _
      rw [List.length_take] at hj
      exact absurd (by rw [List.getD_eq_getElem?_getD, List.getElem?_take_of_lt (by omega), ← List.getD_eq_getElem?_getD]) hne
    case body2 =>
      rintro l0 pre s a' W2 hl ⟨r, hr⟩ ⟨hb, hB⟩ ⟨Bx, hBx, bX, rfl⟩ hlt
      dsimp only
      have ck : W2.cell? ⟨W5.heap.size, 0, none⟩ = some (.int .i64 (pre.length : Nat)) := hb.cell
      have fk := hb.frozen
      have HBB := hide hb
      have HB2 := hide hB
      have HTW := hide (HT5.out.call hB)
      have hb2 : Boxed W2 tb2 3 (.int .i64 1) := Boxed.bel HTB5.out hB
      have b0 := hb2.cell
      have x0 : W2.cell? ⟨Bx, 0, none⟩ = some (.int .i64 s.o) := by rw [cell_of_row _ _ _ _ _ _ bX]; rfl
      have x1 : W2.cell? ⟨Bx, 1, none⟩ = some (.int .i64 s.p) := by rw [cell_of_row _ _ _ _ _ _ bX]; rfl
      obtain ⟨y0, y1⟩ := HTW.out.ref HR.out
      obtain ⟨r0, r1⟩ := HTW.out.rcell
      obtain ⟨bm, om, rfl, m0, m1⟩ := (HR.out.sp.below HTW.out.bel (Nat.le_refl _)) pre.length hlt
      have q1 : decide ((l.length : Int) ≤ (pre.length : Int)) = false := decide_eq_false (by omega)
      have q1' : decide (l.length ≤ pre.length) = false := decide_eq_false (by omega)
      have hx1 : (pre.length : Int) < (l.length : Int) := by omega
      have HPRE : Hid (pre.length + 1 ≤ 1000000) := hide (by omega)
      have HNE : Hid (s ≠ l.getD pre.length default → ∃ j, j < (pre ++ [s]).length ∧ (pre ++ [s]).getD j default ≠ l.getD j default) := hide (fun h => ⟨pre.length, by simp, by rw [getD_last, if_neg (by omega), if_pos rfl]; exact h⟩)
      clear hb hB
      generalize l.getD pre.length default = m at *
      obtain ⟨mo, mp⟩ := m
      obtain ⟨so, sp⟩ := s
      dsimp only at *
      by_cases e1 : so = mo
      · by_cases e2 : sp = mp
        · subst e1 e2
          gi_wp2_with fail
          refine region_quiet_round (by kernel_rfl) (by kernel_rfl) (by kernel_rfl) ?_
          repeat (gi_big_quiet_step (fail))
          refine wpQuietIn_nil ?_
          rintro w' ⟨nq, rfl⟩
          have hw1 : IntKind.i64.wrap ((pre.length : Int) + 1) = (pre.length : Int) + 1 := by have := HPRE.out; rw [IntKind.wrap_i64]; omega
          have ck2 : (W2.drewN nq).cell? ⟨W5.heap.size, 0, none⟩ = some (.int .i64 (pre.length : Nat)) := ck
          have fk2 : (W2.drewN nq).frozen? ⟨W5.heap.size, 0, none⟩ = false := fk
          have hb3 : ((W2.drewN nq).setCell ⟨W5.heap.size, 0, none⟩ (.int .i64 ((pre.length : Int) + 1))).cell? ⟨tb2, 0, none⟩ = some (.int .i64 1) := (Boxed.other (show Boxed (W2.drewN nq) tb2 3 _ from hb2) (by have := HTB5.out.lt; omega) _).cell
          gi_wp2
          refine ⟨(KeepsOthers.trans (show KeepsOthers W2 (W2.drewN nq) from ⟨Nat.le_refl _, fun _ _ h _ => h⟩) (KeepsOthers.setCell _ _ _)).from _, (belowDrewN (Below.refl W5.heap.size W2) nq).setCell (p := ⟨W5.heap.size, 0, none⟩) (Nat.le_refl _) _, ?_, (belowDrewN HB2.out nq).setCell (p := ⟨W5.heap.size, 0, none⟩) (Nat.le_refl _) _⟩
          have e : (((pre ++ [(⟨so, sp⟩ : S2)]).length : Nat) : Int) = (pre.length : Int) + 1 := by rw [List.length_append, List.length_singleton]; omega
          rw [e]
          exact (show Boxed (W2.drewN nq) W5.heap.size 3 _ from HBB.out).set _
        · have q2 : (sp == mp) = false := beq_eq_false_iff_ne.2 e2
          gi_wp2_with fail
          refine region_quiet_round (by kernel_rfl) (by kernel_rfl) (by kernel_rfl) ?_
          repeat (gi_big_quiet_step (fail))
          refine wpQuietIn_nil ?_
          rintro w' ⟨nq, rfl⟩
          have r0' : (W2.drewN nq).cell? ⟨w.heap.size + 1, 0, none⟩ = some (.bool false) := r0
          have r1' : (W2.drewN nq).frozen? ⟨w.heap.size + 1, 0, none⟩ = false := r1
          gi_wp2
          exact ⟨(KeepsOthers.trans (show KeepsOthers W2 (W2.drewN nq) from ⟨Nat.le_refl _, fun _ _ h _ => h⟩) (KeepsOthers.setCell _ _ _)).from _, rfl, HNE.out (fun e => by injection e with h1 h2; exact e2 h2)⟩
      · have q2 : (so == mo) = false := beq_eq_false_iff_ne.2 e1
        gi_wp2_with fail
        refine region_quiet_round (by kernel_rfl) (by kernel_rfl) (by kernel_rfl) ?_
        repeat (gi_big_quiet_step (fail))
        refine wpQuietIn_nil ?_
        rintro w' ⟨nq, rfl⟩
        have r0' : (W2.drewN nq).cell? ⟨w.heap.size + 1, 0, none⟩ = some (.bool false) := r0
        have r1' : (W2.drewN nq).frozen? ⟨w.heap.size + 1, 0, none⟩ = false := r1
        gi_wp2
        exact ⟨(KeepsOthers.trans (show KeepsOthers W2 (W2.drewN nq) from ⟨Nat.le_refl _, fun _ _ h _ => h⟩) (KeepsOthers.setCell _ _ _)).from _, rfl, HNE.out (fun e => by injection e with h1 h2; exact e1 h1)⟩
    case done2 =>
      rintro D2 ys W7 hD hys ⟨hb, hB⟩ hK
      rw [hys] at hb
      clear hys
      have hk := hb.cell
      have HTW := hide (HT5.out.call hB)
      obtain ⟨y0, y1⟩ := HTW.out.ref HR.out
      have hb2 : Boxed W7 tb2 3 (.int .i64 1) := Boxed.bel HTB5.out hB
      have b0 := hb2.cell
      have HD2 : Hid (D < D2) := hide (by have := (Array.getElem?_eq_some_iff.1 HK5.out).1; omega)
      have HKa := hide ((hB.block D (Array.getElem?_eq_some_iff.1 HK5.out).1).trans HK5.out)
      have HKb := hide hK
      have q9 : ((l.length : Int) != (l.length : Int)) = false := by simp
      clear hK hB hb hb2 HT5 HA5 HTB5 HK5 HB5 hB6 bK6 hsz6 hD
      gi_wp2_with fail
      refine wpIn_wide.2 ?_
      go_quiet (fail)
      generalize hW8 : W7.drewN _ = W8
      have HT8 : Hid (TW w gr false W8) := hide (by rw [← hW8]; exact HTW.out.call (belowDrewN (Below.refl _ _) _))
      have HK8 : Hid (W8.heap[D]? = some (.deferred (some []))) := hide (by rw [← hW8]; exact HKa.out)
      have HK9 : Hid (W8.heap[D2]? = some (.deferred (some []))) := hide (by rw [← hW8]; exact HKb.out)
      have b8 : W8.cell? ⟨tb2, 0, none⟩ = some (.int .i64 1) := by rw [← hW8]; exact b0
      clear hW8 HTW HKa HKb b0 y0 y1 hk
      clear W7
      gi_wp2_with fail
      obtain ⟨W9, hW9⟩ : ∃ W9, W9 = W8.alloc (.cells #[.int .i64 2] 3) := ⟨_, rfl⟩
      have hB9 : Below W8.heap.size W8 W9 := by rw [hW9]; exact (Below.refl _ _).alloc (Nat.le_refl _) _
      have bT9 : Boxed W9 W8.heap.size 3 (.int .i64 2) := by rw [hW9]; exact Boxed.new _ _ _
      rw [← hW9]
      clear hW9
      have b9 := bT9.cell
      have HT9 := hide (HT8.out.call hB9)
      have HKa := hide ((hB9.block D (Array.getElem?_eq_some_iff.1 HK8.out).1).trans HK8.out)
      have HKb := hide ((hB9.block D2 (Array.getElem?_eq_some_iff.1 HK9.out).1).trans HK9.out)
      clear hB9 bT9 HT8 HK8 HK9 b8
      generalize W8.heap.size = tb3 at *
      clear W8
      rw [roundsIn_succ]
      gi_wp2_with fail
      refine ⟨trivial, (callsIn_wide.2 (Bytes_ok (HX.out.call HT9.out.bel) H1.out H2.out HN.out)).mono ?_⟩
      rintro e Wa ⟨bv, rfl, hrow, hBa⟩
      obtain ⟨ba, bc, rfl, _, hcs, hba⟩ := bytes_any2 hrow
      have HBA : Hid (∀ b off, ba = some ⟨b, off, none⟩ → w.heap.size + 1 < b) := hide (fun b off e => Nat.lt_of_lt_of_le HT9.out.lt (hba b off e))
      have HTa := hide (HT9.out.call hBa)
      have HKc := hide ((hBa.block D (Array.getElem?_eq_some_iff.1 HKa.out).1).trans HKa.out)
      have HKd := hide ((hBa.block D2 (Array.getElem?_eq_some_iff.1 HKb.out).1).trans HKb.out)
      have HCS := hide hcs
      clear hrow hBa hcs hba HT9 HKa HKb b9
      gi_wp2_with fail
      have HRB := hide (refBytes_ok (HR.out.call HTa.out.drew.bel) HN.out)
      generalize bytesL st l = BL at *
      have HSF : Hid (∀ W, Below Wa.heap.size Wa W → W.cell? ⟨w.heap.size, 0, none⟩ = some (.pointer (some ⟨gr, 0, none⟩)) ∧ (convert 43 9 (.slice ba BL.length bc)).run Try.prog W = .ok (.string (strL BL)) W) := hide (fun W hW =>
        ⟨(HTa.out.call hW).cell, conv_ok rfl (HCS.out.below hW (Nat.le_refl _)) bc⟩)
      have HSG : Hid (∀ W x, Below Wa.heap.size Wa W → (W.setCell ⟨w.heap.size + 1, 0, none⟩ x).cell? ⟨w.heap.size, 0, none⟩ = some (.pointer (some ⟨gr, 0, none⟩)) ∧ (convert 43 9 (.slice ba BL.length bc)).run Try.prog (W.setCell ⟨w.heap.size + 1, 0, none⟩ x) = .ok (.string (strL BL)) (W.setCell ⟨w.heap.size + 1, 0, none⟩ x)) := hide (fun W x hW => by
        refine ⟨?_, conv_ok rfl ((HCS.out.below hW (Nat.le_refl _)).grown (grownBy_setCell' W (w.heap.size + 1) x) (fun b off e => ?_)) bc⟩
        · rw [cell_of_row _ _ _ _ _ _ ((Below.heap_setCell _ _ _ w.heap.size (by show w.heap.size ≠ w.heap.size + 1; omega)).trans (HTa.out.call hW).rb)]; rfl
        · have := HBA.out b off e
          simp
          omega)
      obtain ⟨y0, hcv0⟩ := HSF.out Wa.drew (Below.refl _ _).drew
      refine wpIn_wide.2 (wp_region_noPanic ?_)
      go_region_with (go_at_call 39; with_reducible refine HRB.out.mono ?_; rintro e wb ⟨v2, rfl, hR2⟩; obtain ⟨a5, c5, rfl, _, hcs2, _⟩ := bytes_any2 hR2.own; have hcv2 := conv_ok rfl hcs2 c5; have HBb : Hid (Below Wa.heap.size Wa wb) := hide hR2.bel_drew; obtain ⟨y1, hcv1⟩ := HSF.out wb HBb.out; have hr0 := (HTa.out.call HBb.out).rcell.1; have hr1 := (HTa.out.call HBb.out).rcell.2; clear hR2 hcs2)
      all_goals
        refine NoPanic.normal ?_
        obtain ⟨k2, k1, hC, hB6⟩ := tells_end (HTa.out.call HBb.out) ((HBb.out.block D (Array.getElem?_eq_some_iff.1 HKc.out).1).trans HKc.out) ((HBb.out.block D2 (Array.getElem?_eq_some_iff.1 HKd.out).1).trans HKd.out) (Nat.lt_of_lt_of_le HLW.out HDW.out) HD2.out true
        generalize (wb.setCell ⟨w.heap.size + 1, 0, none⟩ (.bool true)) = wc at *
        gi_wp2_with fail
        refine ⟨by simp, .inl ⟨_, _, rfl, run_takeDeferred k2, ?_⟩⟩
        refine ⟨by simp, .inl ⟨_, _, rfl, run_takeDeferred k1, ?_⟩⟩
        exact ⟨.bool true, (by simp [results, Try.results20, go_sem, hC]), rfl, hB6⟩
end Go.Proofs.Ythbknahmmegcdaa
