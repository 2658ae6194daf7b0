/- The reference's Add. -/
import Derived.Test.YthbknahmmegcdaaIxRefRead
import Derived.Deep.RegionLaw
namespace Go.Proofs.Ythbknahmmegcdaa
open Go.RowKit Go.Shelf
set_option linter.unusedVariables false

/-- append to nil, whatever the source, at a step of a region that draws its order -/
theorem step_append_nil {P : Program} {w : World} {ops : Array Oper} {o : Oper} {a : Act} {K : Act → World → Prop} {Q : Exit → Act → World → Prop} {E : Prop} (hgd : o.guard = none) (x : Operand) (t : TypeId)
    (ho : o.op = .call { callee := .builtin .append, args := #[.const (.slice none 0 0), x], argTypes := #[t, t] })
    (base : Nat) (e : TypeId) (i : TypeInfo) (z : Value) (size bytes : Nat) (ht : P.underlying t = some (.slice e)) (hi : P.info? e = some i) (hz : i.zero = some z)
    (hsize : i.size = size) (hby : i.bytes = bytes) (hzs : z.cells.size = size) (hsz : 0 < size)
    (ao : Option Addr) (m c : Nat) (news : List Value) (hx : a.eval x = .slice ao m c) (hl : news.length = m * size) (hnone : ao = none → m = 0 ∧ c = 0)
    (hnews : ∀ ad, ao = some ad → ∀ j u, news[j]? = some u → w.cell? (ad.add j) = some u) (h1 : ∀ u ∈ news, u.oneCell' = true)
    (h63 : m ≤ maxLen) (hbytes : m * bytes ≤ 140737488355328) (hbase : base ≤ w.heap.size)
    (h : ∀ v' w', w'.ownsRow base e size v' m news → w.grownBy w' none → K (a.put o.dst v') w') : if Region.wanted o (yielded ops a.tmps) = true then Oper.wp P o a w K Q else E := by
  have hw : Region.wanted o (yielded ops a.tmps) = true := by simp [Region.wanted, hgd]
  rw [if_pos hw]
  cases ao with
  | some ad =>
    exact wp_append_own w _ x t ho base e i z size bytes ht hi hz hsize hby hzs hsz (.slice none 0 0) 0 [] rfl (World.ownsRow_nil _ _ _ _) ad m c news hx hl (hnews ad rfl) h1 (by rw [Nat.zero_add]; exact h63) (by rw [Nat.zero_add]; exact hbytes) hbase (fun v' w' h2 h3 _ => h v' w' (by simpa using h2) h3)
  | none =>
    obtain ⟨rfl, rfl⟩ := hnone rfl
    have hn : news = [] := List.eq_nil_of_length_eq_zero (by simpa using hl)
    subst hn
    have hrun := run_append_owned_none (P := P) (w := w) base t o.type e i size ht hi (.slice none 0 0) 0 [] (World.ownsRow_nil _ _ _ _)
    have hs : a.eval (.const (.slice none 0 0)) = .slice none 0 0 := rfl
    unfold Oper.wp
    simp [execOp, ho, resolve, invoke, builtin, hs, hx, hrun, Result.andThen]
    exact h _ w (World.ownsRow_nil _ _ _ _) (World.grownBy.refl _ _)

theorem own_base {w : World} {base base' : Nat} {e : TypeId} {size n : Nat} {v : Value} {xs : List Value} (h : w.ownsRow base' e size v n xs) (hb : base ≤ base') : w.ownsRow base e size v n xs :=
  ⟨h.1, h.2.imp id (fun ⟨g, cap, cur, h1, h2, r⟩ => ⟨g, cap, cur, h1, Nat.le_trans hb h2, r⟩)⟩
/-- the reference and the spot's own box -/
structure RS (w : World) (base gr : Nat) (st : Int) (l : List S2) (v : Value) (so sp : Int) (W : World) : Prop where
  bel : Below w.heap.size w W
  ref : RefO W base gr st l v
  box : W.heap[w.heap.size]? = some (.cells #[.int .i64 so, .int .i64 sp] 31 (0, 0))
theorem RS.new {w : World} {base gr : Nat} {st : Int} {l : List S2} {v : Value} (h : RefO w base gr st l v) (so sp : Int) : RS w base gr st l v so sp (w.alloc (.cells #[.int .i64 so, .int .i64 sp] 31)) :=
  ⟨(Below.refl _ _).alloc (Nat.le_refl _) _, h.call ((Below.refl _ _).alloc (Nat.le_refl _) _), heap_alloc_new w _⟩
theorem RS.call {w W W' : World} {base gr : Nat} {st so sp : Int} {l : List S2} {v : Value} (h : RS w base gr st l v so sp W) (hB : Below W.heap.size W W') : RS w base gr st l v so sp W' :=
  ⟨h.bel.trans (hB.mono h.bel.size), h.ref.call hB, (hB.block _ (Array.getElem?_eq_some_iff.1 h.box).1).trans h.box⟩
theorem RS.cells {w W : World} {base gr : Nat} {st so sp : Int} {l : List S2} {v : Value} (h : RS w base gr st l v so sp W) :
    W.cell? ⟨w.heap.size, 0, none⟩ = some (.int .i64 so) ∧ W.cell? ⟨w.heap.size, 1, none⟩ = some (.int .i64 sp) ∧ W.cell? ⟨gr, 0, none⟩ = some (.int .i64 st) ∧ W.cell? ⟨gr, 1, none⟩ = some v ∧ W.frozen? ⟨gr, 1, none⟩ = false :=
  ⟨by rw [cell_of_row _ _ _ _ _ _ h.box]; rfl, by rw [cell_of_row _ _ _ _ _ _ h.box]; rfl, by rw [cell_of_row _ _ _ _ _ _ h.ref.box]; rfl, by rw [cell_of_row _ _ _ _ _ _ h.ref.box]; rfl, frozen_of_row _ _ _ _ _ h.ref.box⟩
/-- the row stored -/
theorem RefO.put {w W W' : World} {base base' gr : Nat} {st : Int} {l l' : List S2} {v v' : Value} (h : RefO W base gr st l v) (hB : Below W.heap.size W W') (hbb : base ≤ base') (hb0 : w.heap.size ≤ base') (hw : Below w.heap.size w W) (hgr : gr < w.heap.size) (hr : OwnSpots W' base' v' l') :
    RefO (W'.setCell ⟨gr, 1, none⟩ v') base gr st l' v' ∧ KeptX w (W'.setCell ⟨gr, 1, none⟩ v') gr none ∧ (v'.ownBlock = v.ownBlock ∨ v'.ownBlock = none ∨ ∃ r, v'.ownBlock = some r ∧ w.heap.size ≤ r) := by
  have h1 := h.call hB
  have hne : some gr ≠ v'.ownBlock := cells_not_row h1.box (by decide) hr
  refine ⟨⟨?_, ?_⟩, (KeptX.of_below (hw.trans (hB.mono hw.size)) gr none).trans (KeptX.of_set _ _ _ _ _), ?_⟩
  · rw [setCell_eq_setRow _ gr 1 _ _ _ _ h1.box]
    exact setRow_heap _ _ _ _ _ _ h1.box
  · have h2 : OwnSpots (W'.setCell ⟨gr, 1, none⟩ v') base' v' l' := World.ownsRow.kept hr (row := some gr) ⟨rfl, rfl, rfl, by simp [World.setCell], fun k _ hk => Below.heap_setCell _ _ _ k (fun e => hk (by rw [e]))⟩ (.inr (Ne.symm hne))
    exact own_base h2 hbb
  · cases e : v'.ownBlock with
    | none => exact .inr (.inl rfl)
    | some r => exact .inr (.inr ⟨r, rfl, Nat.le_trans hb0 (hr.lt r e).1⟩)
set_option maxRecDepth 100000 in
set_option maxHeartbeats 4000000 in
theorem refAdd_ok {w : World} {base gr : Nat} {st : Int} {l : List S2} {v : Value} (h : RefO w base gr st l v) (hn : l.length ≤ 100000) (hlo : l.length ≠ 0 → 0 ≤ (lastS l).p) (hbase : base ≤ w.heap.size) (s : S2) :
    Calls Try.prog 22 #[.pointer (some ⟨gr, 0, none⟩), .agg (spotV s)] w fun e w' =>
      ∃ v', e = .returned (.tuple #[.bool (addB st l s), .int .i64 (addE l s)]) ∧ RefO w' base gr st (addL st l s) v' ∧ KeptX w w' gr none ∧ (v'.ownBlock = v.ownBlock ∨ v'.ownBlock = none ∨ ∃ r, v'.ownBlock = some r ∧ w.heap.size ≤ r) := by
  obtain ⟨so, sp⟩ := s
  have HX0 := hide (RS.new h so sp)
  have HGR := hide h.lt
  obtain ⟨rB, hrB⟩ : ∃ x, x = addB st l ⟨so, sp⟩ := ⟨_, rfl⟩
  obtain ⟨rE, hrE⟩ : ∃ x, x = addE l ⟨so, sp⟩ := ⟨_, rfl⟩
  obtain ⟨rL, hrL⟩ : ∃ x, x = addL st l ⟨so, sp⟩ := ⟨_, rfl⟩
  rw [← hrB, ← hrE, ← hrL]
  have HNOW : Hid (rB = false → ∀ W, RS w base gr st l v so sp W → ∃ v', RefO W base gr st rL v' ∧ KeptX w W gr none ∧ (v'.ownBlock = v.ownBlock ∨ v'.ownBlock = none ∨ ∃ r, v'.ownBlock = some r ∧ w.heap.size ≤ r)) := hide (fun hb W hI => by
    have e : rL = l := by rw [hrL]; unfold addL; rw [← hrB, hb]; rfl
    rw [e]
    exact ⟨v, hI.ref, .of_below hI.bel _ _, .inl rfl⟩)
  unfold spotV
  dsimp only
  by_cases hrg : 0 ≤ so ∧ so ≤ 9007199254740992 ∧ 0 ≤ sp ∧ sp ≤ 16777216
  · obtain ⟨i0, hi, hz0, hz1, hz2⟩ := info_spot
    obtain ⟨r1, r2, r3, r4⟩ := hrg
    have d1 : decide (so < 0) = false := decide_eq_false (by omega)
    have d2 : decide (9007199254740992 < so) = false := decide_eq_false (by omega)
    have d3 : decide (sp < 0) = false := decide_eq_false (by omega)
    have d4 : decide (16777216 < sp) = false := decide_eq_false (by omega)
    have hm : mayB l ⟨so, sp⟩ = (decide (l.length = 0) || (decide ((lastS l).o < so) && decide ((lastS l).p < sp))) := by unfold mayB; rw [decide_eq_true (by exact ⟨r1, r2, r3, r4⟩), Bool.true_and]
    have hnr : nearB st l ⟨so, sp⟩ = (!decide (l.length = 0) && decide (sp - (lastS l).p < st)) := rfl
    have HM := hide hm
    have HNR := hide hnr
    have HB := hide hrB
    have HE := hide hrE
    have HL := hide hrL
    obtain ⟨ao, cap, rfl, hcap, hnil, hsp, hbo⟩ := h.own.any
    have HLS : Hid (l.length ≠ 0 → ∀ W, Below w.heap.size w W → ∃ blk of, ao = some ⟨blk, of, none⟩ ∧ W.cell? ⟨blk, of + (l.length - 1) * 2, none⟩ = some (.int .i64 (lastS l).o) ∧ W.cell? ⟨blk, of + (l.length - 1) * 2 + 1, none⟩ = some (.int .i64 (lastS l).p)) := hide (fun h0 W hB => (hsp.below hB (Nat.le_refl _)) (l.length - 1) (by omega))
    have HSRC : Hid (∀ W, Below w.heap.size w W → ∀ ad, ao = some ad → ∀ j u, (spotCells l)[j]? = some u → W.cell? (ad.add j) = some u) := hide (fun W hB => spots_src (hsp.below hB (Nat.le_refl _)))
    have HNIL := hide hnil
    have HSL := hide (spotCells_length l)
    have HS1 := hide (spotCells_one l)
    have HLO := hide hlo
    clear hm hnr hrB hrE hrL h hnil hsp hbo hlo
    obtain ⟨b0, b1, g0, g1, g2⟩ := HX0.out.cells
    have hlen : l.length ≤ 100000 := hn
    have HN := hide hn
    clear hn
    generalize hln : l.length = n at *
    have HLN := hide hln
    clear hln
    have hwl : n ≠ 0 → IntKind.i64.wrap ((n : Int) - 1) = ((n - 1 : Nat) : Int) := fun h0 => by rw [IntKind.wrap_i64]; omega
    have HWL := hide hwl
    clear hwl
    go_enter Try.func22, Try.ntmps22
    go_wp2_with fail
    generalize (w.alloc (.cells #[.int .i64 so, .int .i64 sp] 31)) = w1 at *
    by_cases hA : n = 0 ∨ ((lastS l).o < so ∧ (lastS l).p < sp ∧ st ≤ sp - (lastS l).p)
    · have HEQ : Hid (rB = true ∧ rE = 0 ∧ rL = l ++ [⟨so, sp⟩]) := hide (by
        have m : mayB l ⟨so, sp⟩ = true := by
          rw [HM.out]
          simp only [Bool.or_eq_true, Bool.and_eq_true, decide_eq_true_eq]
          exact hA.imp id (fun h => ⟨h.1, h.2.1⟩)
        have r : nearB st l ⟨so, sp⟩ = false := by
          rw [HNR.out]
          simp only [Bool.and_eq_false_iff, Bool.not_eq_false', decide_eq_true_eq, decide_eq_false_iff_not]
          exact hA.imp id (fun h => by omega)
        have a : addB st l ⟨so, sp⟩ = true := by unfold addB; rw [m, r]; rfl
        exact ⟨by rw [HB.out, a], by rw [HE.out]; unfold addE; rw [if_pos m], by rw [HL.out]; unfold addL; rw [if_pos a]⟩)
      obtain ⟨e1, e2, e3⟩ := HEQ.out
      clear HNOW HM HNR HB HE HL HEQ
      subst e1 e2 e3
      by_cases h0 : n = 0
      case' pos =>
        have dz : decide ((0 : Int) < (n : Int)) = false := decide_eq_false (by omega)
        have dz' : decide (0 < n) = false := decide_eq_false (by omega)
        clear hA h0 HLS HLO HWL
        go_quiet (fail)
        go_wp2_with fail
        go_quiet (fail)
      case' neg =>
        obtain ⟨h1, h2, h3⟩ := hA.resolve_left h0
        have dz : decide ((0 : Int) < (n : Int)) = true := decide_eq_true (by omega)
        have dz' : decide (0 < n) = true := decide_eq_true (by omega)
        obtain ⟨lb, lo, rfl, m0, m1⟩ := HLS.out h0 w1 HX0.out.bel
        have hlp := HLO.out h0
        have hwl := HWL.out h0
        have hi1 : ((n - 1 : Nat) : Int) < (n : Int) := by omega
        have hi2 : n - 1 < n := by omega
        generalize lastS l = m at *
        obtain ⟨mo, mp⟩ := m
        dsimp only at *
        have dd1 : decide (so ≤ mo) = false := decide_eq_false (by omega)
        have dd2 : decide (sp ≤ mp) = false := decide_eq_false (by omega)
        have dd3 : decide (sp - mp < st) = false := decide_eq_false (by omega)
        have hwm : IntKind.i64.wrap (sp - mp) = sp - mp := by rw [IntKind.wrap_i64]; omega
        clear h1 h2 h3 hlp hA h0 HLS HLO HWL
        go_quiet (fail)
        go_wp2_with fail
        go_quiet (fail)
      all_goals
        generalize hw2 : ((w1.drewN _).drewN _ : World) = w2
        have hB2 : Below w1.heap.size w1 w2 := by rw [← hw2]; exact belowDrewN (belowDrewN (Below.refl _ _) _) _
        have HX2 := hide (HX0.out.call hB2)
        clear hB2
        clear hw2 HX0 b0 b1 g0 g1 g2
        have HBA : Hid (Below w2.heap.size w2 w2.drew) := hide (Below.refl _ _).drew
        have HBB : Hid (Below w2.heap.size w2 (w2.alloc (.cells #[.int .i64 so, .int .i64 sp] 31)).drew) := hide ((Below.refl _ _).alloc (Nat.le_refl _) _).drew
        have HSR2 := hide (fun (W : World) (hB : Below w2.heap.size w2 W) => HSRC.out W (HX2.out.bel.trans (hB.mono HX2.out.bel.size)))
        have HNW := hide (heap_alloc_new w2 (.cells #[.int .i64 so, .int .i64 sp] 31))
        obtain ⟨b0, b1, g0, g1, g2⟩ := (HX2.out.call HBA.out).cells
        obtain ⟨c0, c1, k0, k1, k2⟩ := (HX2.out.call HBB.out).cells
        have hn9 : n + 1 ≤ maxLen := by unfold maxLen; omega
        have HAPL : Hid (∀ (W : World) (g5 cap5 : Nat), W.ownsRow w2.heap.size 31 2 (.slice (some ⟨g5, 0, none⟩) (n + 1) cap5) (n + 1) (spotCells l ++ [.int .i64 so, .int .i64 sp]) → OwnSpots W w2.heap.size (.slice (some ⟨g5, 0, none⟩) (n + 1) cap5) (l ++ [⟨so, sp⟩])) := hide (fun W g5 cap5 h => by
          unfold OwnSpots
          rw [List.length_append, List.length_singleton, spotCells_append, HLN.out]
          exact h)
        go_wp2_with fail
        go_region_law (first
          | (refine step_append_nil rfl (.tmp 85) 39 rfl w2.heap.size 31 i0 (.agg #[.int .i64 0, .int .i64 0]) 2 16 Try.underlying39 hi hz0 hz1 hz2 rfl (by decide) _ n cap (spotCells l) (by first | (simp [Act.eval]; done) | (simp [Act.eval]; rfl)) HSL.out (by first | exact HNIL.out | (intro e; cases e)) (HSR2.out _ (by first | exact HBA.out | exact HBB.out | fail)) HS1.out (by omega) (by omega) (by first | exact HBA.out.size | exact HBB.out.size | fail) ?_; intro v1 w3 hown hgrow; have HO1 := hide hown; (try have HN3 : Hid (w3.heap[w2.heap.size]? = some (.cells #[.int .i64 so, .int .i64 sp] 31 (0, 0))) := hide ((hgrow.block w2.heap.size (Array.getElem?_eq_some_iff.1 HNW.out).1 (by intro e; cases e)).trans HNW.out)); have HB3 : Hid (Below w2.heap.size w2 w3) := hide (by first | exact HBA.out.grown hgrow (Nat.le_refl _) (by intro k e; cases e) | exact HBB.out.grown hgrow HBB.out.size (by intro k e; cases e) | fail); obtain ⟨e0, e1, f0, f1, f2⟩ := (HX2.out.call HB3.out).cells; clear hown hgrow)
          | (refine step_append_lies _ rfl (.tmp 86) (.tmp 88) 39 rfl w2.heap.size 31 i0 (.agg #[.int .i64 0, .int .i64 0]) 2 16 Try.underlying39 hi hz0 hz1 hz2 rfl (by decide) v1 n (spotCells l) (by simp [Act.eval]) HO1.out ⟨w2.heap.size, 0, none⟩ 1 1 [.int .i64 so, .int .i64 sp] (by simp [Act.eval]) (by simp) (World.news_of_block HN3.out) (by intro u hu; simp at hu; rcases hu with rfl | rfl <;> rfl) (by omega) hn9 (by omega) HB3.out.size _ rfl ?_; intro g5 cap5 w4 hown hgrow hat hlt; have HO4 := hide hown; have HB4 : Hid (Below w2.heap.size w2 w4) := hide (HB3.out.grown hgrow HB3.out.size (fun r e => (HO1.out.lt r e).1)); obtain ⟨t0, t1, u0, u1, u2⟩ := (HX2.out.call HB4.out).cells; clear hown hgrow hat)
          | (refine step_append_lies _ rfl (.tmp 86) (.tmp 88) 39 rfl w2.heap.size 31 i0 (.agg #[.int .i64 0, .int .i64 0]) 2 16 Try.underlying39 hi hz0 hz1 hz2 rfl (by decide) v1 n (spotCells l) (by simp [Act.eval]) (HO1.out.alloc _) ⟨w3.heap.size, 0, none⟩ 1 1 [.int .i64 so, .int .i64 sp] (by simp [Act.eval]) (by simp) (World.news_of_block (heap_alloc_new w3 (.cells #[.int .i64 so, .int .i64 sp] 31))) (by intro u hu; simp at hu; rcases hu with rfl | rfl <;> rfl) (by omega) hn9 (by omega) (HB3.out.alloc HB3.out.size _).size _ rfl ?_; intro g5 cap5 w4 hown hgrow hat hlt; have HO4 := hide hown; have HB4 : Hid (Below w2.heap.size w2 w4) := hide ((HB3.out.alloc HB3.out.size _).grown hgrow (HB3.out.alloc HB3.out.size _).size (fun r e => (HO1.out.lt r e).1)); obtain ⟨t0, t1, u0, u1, u2⟩ := (HX2.out.call HB4.out).cells; clear hown hgrow hat))
        all_goals
          have HF := hide (RefO.put HX2.out.ref HB4.out (Nat.le_trans hbase HX2.out.bel.size) HX2.out.bel.size HX2.out.bel HGR.out (HAPL.out _ _ _ HO4.out))
          generalize (w4.setCell ⟨gr, 1, none⟩ (.slice (some ⟨g5, 0, none⟩) (n + 1) cap5)) = w5 at *
          go_wp2_with fail
          go_ret2
          obtain ⟨k1, k2, k3⟩ := HF.out
          first | exact ⟨_, rfl, k1, k2, k3⟩ | exact ⟨rfl, _, k1, k2, k3⟩
    · as_aux_lemma =>
        have h0 : n ≠ 0 := fun h => hA (.inl h)
        have dz : decide ((0 : Int) < (n : Int)) = true := decide_eq_true (by omega)
        have dz' : decide (0 < n) = true := decide_eq_true (by omega)
        obtain ⟨lb, lo, rfl, m0, m1⟩ := HLS.out h0 w1 HX0.out.bel
        have hlp := HLO.out h0
        have hwl := HWL.out h0
        have hi1 : ((n - 1 : Nat) : Int) < (n : Int) := by omega
        have hi2 : n - 1 < n := by omega
        have hdn : decide (n = 0) = false := decide_eq_false h0
        have hm := HM.out
        have hnr := HNR.out
        have hb := HB.out
        have he := HE.out
        rw [hdn, Bool.false_or] at hm
        rw [hdn, Bool.not_false, Bool.true_and] at hnr
        unfold addB at hb
        unfold addE at he
        rw [hm, hnr] at hb
        rw [hm] at he
        clear HM HNR HB HE hm hnr hdn HLS HLO HWL
        generalize lastS l = m at *
        obtain ⟨mo, mp⟩ := m
        dsimp only at *
        have hA2 : so ≤ mo ∨ sp ≤ mp ∨ sp - mp < st := by omega
        have hsb : Hid (rB = false) := hide (by
          rw [hb]
          simp only [Bool.and_eq_false_iff, decide_eq_false_iff_not, Bool.not_eq_false', decide_eq_true_eq]
          omega)
        obtain ⟨vf, kf⟩ := HNOW.out hsb.out w1 HX0.out
        have HNW2 : Hid (∀ W, Below w1.heap.size w1 W → ∃ v', RefO W base gr st rL v' ∧ KeptX w W gr none ∧ (v'.ownBlock = (Value.slice (some ⟨lb, lo, none⟩) n cap).ownBlock ∨ v'.ownBlock = none ∨ ∃ r, v'.ownBlock = some r ∧ w.heap.size ≤ r)) := hide (fun W hB => HNOW.out hsb.out W (HX0.out.call hB))
        obtain rfl : rB = false := hsb.out
        clear hA HNOW hb HL vf kf hsb
        by_cases h1 : so ≤ mo
        · have dd1 : decide (so ≤ mo) = true := decide_eq_true h1
          have he2 : rE = 2 := by rw [he, if_neg]; simp; omega
          subst he2
          clear h1 hA2 hlp h0 he
          go_quiet (fail)
          have HND := hide (HNW2.out (w1.drewN nq) (belowDrewN (Below.refl _ _) _))
          go_wp2_with fail
          go_ret2
          obtain ⟨v', k1, k2⟩ := HND.out
          first | exact ⟨v', rfl, k1, k2⟩ | exact ⟨rfl, v', k1, k2⟩
        · have dd1 : decide (so ≤ mo) = false := decide_eq_false h1
          by_cases h2 : sp ≤ mp
          · have dd2 : decide (sp ≤ mp) = true := decide_eq_true h2
            have he2 : rE = 2 := by rw [he, if_neg]; simp; omega
            subst he2
            clear h1 h2 hA2 hlp h0 he
            go_quiet (fail)
            have HND := hide (HNW2.out (w1.drewN nq) (belowDrewN (Below.refl _ _) _))
            go_wp2_with fail
            go_ret2
            obtain ⟨v', k1, k2⟩ := HND.out
            first | exact ⟨v', rfl, k1, k2⟩ | exact ⟨rfl, v', k1, k2⟩
          · have dd2 : decide (sp ≤ mp) = false := decide_eq_false h2
            have he2 : rE = 0 := by rw [he, if_pos]; simp; omega
            subst he2
            have dd3 : decide (sp - mp < st) = true := decide_eq_true (by omega)
            have hwm : IntKind.i64.wrap (sp - mp) = sp - mp := by rw [IntKind.wrap_i64]; omega
            clear h1 h2 hA2 hlp h0 he
            go_quiet (fail)
            go_wp2_with fail
            go_quiet (fail)
            generalize hw2 : ((w1.drewN _).drewN _ : World) = w2
            have HND := hide (HNW2.out w2 (by rw [← hw2]; exact belowDrewN (belowDrewN (Below.refl _ _) _) _))
            go_wp2_with fail
            go_ret2
            obtain ⟨v', k1, k2⟩ := HND.out
            first | exact ⟨v', rfl, k1, k2⟩ | exact ⟨rfl, v', k1, k2⟩
  · as_aux_lemma =>
      have hm : mayB l ⟨so, sp⟩ = false := by unfold mayB; rw [decide_eq_false hrg, Bool.false_and]
      have e1 : rB = false := by rw [hrB]; unfold addB; rw [hm]; rfl
      have e2 : rE = 2 := by rw [hrE]; unfold addE; rw [hm]; rfl
      subst e1 e2
      clear hm hrB hrE hrL
      obtain ⟨b0, b1, _⟩ := HX0.out.cells
      have HND := hide (HNOW.out rfl _ HX0.out)
      clear HX0 HNOW h hn hlo hbase
      by_cases h1 : so < 0
      · have d1 : decide (so < 0) = true := decide_eq_true h1
        clear hrg h1
        go_enter Try.func22, Try.ntmps22
        go_wp2
        go_ret2
        (obtain ⟨v', k1, k2⟩ := HND.out; first | exact ⟨v', rfl, k1, k2⟩ | exact ⟨rfl, v', k1, k2⟩)
      · have d1 : decide (so < 0) = false := decide_eq_false h1
        by_cases h2 : 9007199254740992 < so
        · have d2 : decide (9007199254740992 < so) = true := decide_eq_true h2
          clear hrg h1 h2
          go_enter Try.func22, Try.ntmps22
          go_wp2
          go_ret2
          (obtain ⟨v', k1, k2⟩ := HND.out; first | exact ⟨v', rfl, k1, k2⟩ | exact ⟨rfl, v', k1, k2⟩)
        · have d2 : decide (9007199254740992 < so) = false := decide_eq_false h2
          by_cases h3 : sp < 0
          · have d3 : decide (sp < 0) = true := decide_eq_true h3
            clear hrg h1 h2 h3
            go_enter Try.func22, Try.ntmps22
            go_wp2
            go_ret2
            (obtain ⟨v', k1, k2⟩ := HND.out; first | exact ⟨v', rfl, k1, k2⟩ | exact ⟨rfl, v', k1, k2⟩)
          · have d3 : decide (sp < 0) = false := decide_eq_false h3
            have d4 : decide (16777216 < sp) = true := decide_eq_true (by omega)
            clear hrg h1 h2 h3
            go_enter Try.func22, Try.ntmps22
            go_wp2
            go_ret2
            (obtain ⟨v', k1, k2⟩ := HND.out; first | exact ⟨v', rfl, k1, k2⟩ | exact ⟨rfl, v', k1, k2⟩)
end Go.Proofs.Ythbknahmmegcdaa
