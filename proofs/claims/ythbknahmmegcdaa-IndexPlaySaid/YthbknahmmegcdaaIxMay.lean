/- The walk of index's may. (Written by wip/genixmay.py.) -/
import Derived.Test.YthbknahmmegcdaaIxAdd
namespace Go.Proofs.Ythbknahmmegcdaa
open Go.RowKit

def lastS (l : List S2) : S2 := l.getD (l.length - 1) default
/-- may a spot stand behind all others? -/
def mayB (l : List S2) (s : S2) : Bool :=
  decide (0 ≤ s.o ∧ s.o ≤ 9007199254740992 ∧ 0 ≤ s.p ∧ s.p ≤ 16777216) && (decide (l.length = 0) || (decide ((lastS l).o < s.o) && decide ((lastS l).p < s.p)))
/-- the spot's own box -/
def BoxS (w : World) (g : Nat) (s : S2) : Prop := w.heap[g]? = some (.cells (spotV s) 31 (0, 0))
theorem BoxS.lt {w : World} {g : Nat} {s : S2} (h : BoxS w g s) : g < w.heap.size := (Array.getElem?_eq_some_iff.1 h).1
theorem BoxS.same {w w' : World} {g : Nat} {s : S2} (h : BoxS w g s) (hB : Below w.heap.size w w') : BoxS w' g s := (hB.block g h.lt).trans h
theorem BoxS.cells {w : World} {g : Nat} {o p : Int} (h : BoxS w g ⟨o, p⟩) : w.cell? ⟨g, 0, none⟩ = some (.int .i64 o) ∧ w.cell? ⟨g, 1, none⟩ = some (.int .i64 p) := by
  refine ⟨?_, ?_⟩ <;> (rw [cell_of_row w g _ _ _ _ h]; rfl)
/-- an index, a spot's box, behind a start -/
structure ISt (w wc : World) (gs : Nat) (s : S2) (base g : Nat) (st : Int) (l : List S2) (v : Value) : Prop where
  bel : Below w.heap.size w wc
  box : BoxS wc gs s
  ix : IxAt wc base g st l v
theorem ISt.call {w wc w2 : World} {gs : Nat} {s : S2} {base g : Nat} {st : Int} {l : List S2} {v : Value} (h : ISt w wc gs s base g st l v) (hB : Below wc.heap.size wc w2) : ISt w w2 gs s base g st l v :=
  ⟨h.bel.trans (hB.mono h.bel.size), h.box.same hB, h.ix.call hB⟩
theorem ISt.drewN {w wc : World} {gs : Nat} {s : S2} {base g : Nat} {st : Int} {l : List S2} {v : Value} (h : ISt w wc gs s base g st l v) (k : Nat) : ISt w (wc.drewN k) gs s base g st l v :=
  h.call (belowDrewN (Below.refl _ _) k)
theorem ISt.new {w : World} {base g : Nat} {st : Int} {l : List S2} {v : Value} (h : IxAt w base g st l v) (s : S2) : ISt w (w.alloc (.cells (spotV s) 31)) w.heap.size s base g st l v :=
  ⟨(Below.refl _ _).alloc (Nat.le_refl _) _, heap_alloc_new w _, h.call ((Below.refl _ _).alloc (Nat.le_refl _) _)⟩

set_option maxHeartbeats 3200000 in
set_option maxRecDepth 100000 in
theorem may_ok {w : World} {base g : Nat} {st : Int} {l : List S2} {v : Value} (h : IxAt w base g st l v) (hn : l.length ≤ 9223372036854775807) (s : S2) :
    Calls Try.prog 27 #[.pointer (some ⟨g, 0, none⟩), .agg (spotV s)] w fun e w' => e = .returned (.bool (mayB l s)) ∧ Below w.heap.size w w' := by
  obtain ⟨E, hE⟩ : ∃ E, E = mayB l s := ⟨_, rfl⟩
  rw [← hE]
  have HX0 := hide (ISt.new h s)
  have hrow := fun hn => h.own.row hn
  obtain ⟨ao, cap, rfl, hcap, _, _, _⟩ := h.own.any
  clear h
  have HROW := hide hrow
  unfold mayB lastS at hE
  obtain ⟨so, sp⟩ := s
  dsimp only at hE
  unfold spotV at HX0 ⊢
  obtain ⟨m, hm⟩ : ∃ m, m = l.getD (l.length - 1) default := ⟨_, rfl⟩
  rw [← hm] at hE
  have HMM := hide hm
  obtain ⟨mo, mp⟩ := m
  dsimp only at hE
  have HSP : Hid (∀ (w' : World) (rb : Nat), 0 < l.length → SpotsAt w' (some ⟨rb, 0, none⟩) l → w'.cell? ⟨rb, (l.length - 1) * 2, none⟩ = some (.int .i64 mo) ∧ w'.cell? ⟨rb, (l.length - 1) * 2 + 1, none⟩ = some (.int .i64 mp)) := hide (fun w' rb h0 h => by
    obtain ⟨b, o2, e, h1, h2⟩ := h (l.length - 1) (by omega)
    injection e with e
    injection e with e1 e2
    subst e1 e2
    rw [Nat.zero_add] at h1 h2
    rw [h1, h2, ← HMM.out]
    exact ⟨rfl, rfl⟩)
  have HOWN : Hid (∀ (w' : World) (rb n c : Nat), OwnSpots w' base (.slice (some ⟨rb, 0, none⟩) n c) l → 0 < l.length → SpotsAt w' (some ⟨rb, 0, none⟩) l) := hide (fun w' rb n c h h0 => by
    obtain ⟨rb', c', e, _, _, _, h2⟩ := h.row h0
    injection e with e
    injection e with e
    injection e with e
    subst e
    exact h2)
  clear hm hrow
  generalize hnn : l.length = n at *
  have HNN := hide hnn
  clear hnn
  obtain ⟨b0, b1⟩ := HX0.out.box.cells
  have hx1 := HX0.out.ix.box.cell1
  by_cases h0 : so < 0
  · have d0 : decide (so < 0) = true := decide_eq_true h0
    have HE := hide (show E = false by rw [hE, Bool.and_eq_false_iff]; left; rw [decide_eq_false_iff_not]; omega)
    clear hE h0
    go_enter Try.func27, Try.ntmps27
    go_wp2
    go_ret
    exact ⟨by rw [HE.out] <;> rfl, HX0.out.bel⟩
  have d0 : decide (so < 0) = false := decide_eq_false h0
  by_cases h1 : 9007199254740992 < so
  · have d1 : decide (9007199254740992 < so) = true := decide_eq_true h1
    have HE := hide (show E = false by rw [hE, Bool.and_eq_false_iff]; left; rw [decide_eq_false_iff_not]; omega)
    clear hE h0 h1
    go_enter Try.func27, Try.ntmps27
    go_wp2
    go_ret
    exact ⟨by rw [HE.out] <;> rfl, HX0.out.bel⟩
  have d1 : decide (9007199254740992 < so) = false := decide_eq_false h1
  by_cases h2 : sp < 0
  · have d2 : decide (sp < 0) = true := decide_eq_true h2
    have HE := hide (show E = false by rw [hE, Bool.and_eq_false_iff]; left; rw [decide_eq_false_iff_not]; omega)
    clear hE h0 h1 h2
    go_enter Try.func27, Try.ntmps27
    go_wp2
    go_ret
    exact ⟨by rw [HE.out] <;> rfl, HX0.out.bel⟩
  have d2 : decide (sp < 0) = false := decide_eq_false h2
  by_cases h3 : 16777216 < sp
  · have d3 : decide (16777216 < sp) = true := decide_eq_true h3
    have HE := hide (show E = false by rw [hE, Bool.and_eq_false_iff]; left; rw [decide_eq_false_iff_not]; omega)
    clear hE h0 h1 h2 h3
    go_enter Try.func27, Try.ntmps27
    go_wp2
    go_ret
    exact ⟨by rw [HE.out] <;> rfl, HX0.out.bel⟩
  have d3 : decide (16777216 < sp) = false := decide_eq_false h3
  have hE2 : E = (decide (n = 0) || (decide (mo < so) && decide (mp < sp))) := by rw [hE, decide_eq_true (by omega), Bool.true_and]
  clear hE h0 h1 h2 h3
  go_enter Try.func27, Try.ntmps27
  go_upto_region 4 with fail
  clear d0 d1 d2 d3 b0 b1 hx1
  by_cases hz : n = 0
  · have q : ((n : Int) == 0) = true := by rw [beq_iff_eq]; omega
    have HE := hide (show E = true by rw [hE2, decide_eq_true hz, Bool.true_or])
    clear hz hE2
    go_quiet (fail)
    have HX1 := hide (HX0.out.drewN nq)
    go_wp2_with fail
    go_ret
    exact ⟨by rw [HE.out] <;> rfl, HX1.out.bel⟩
  have q : ((n : Int) == 0) = false := beq_eq_false_iff_ne.2 (by omega)
  have hE3 : E = (decide (mo < so) && decide (mp < sp)) := by rw [hE2, decide_eq_false hz, Bool.false_or]
  obtain ⟨rb, c', e, _, _, _, _⟩ := HROW.out (by omega)
  injection e with e e1 e2
  subst e e2
  have hS := HOWN.out _ rb n cap HX0.out.ix.own (by omega)
  obtain ⟨m0, m1⟩ := HSP.out _ rb (by omega) hS
  obtain ⟨b0, b1⟩ := HX0.out.box.cells
  have hx1 := HX0.out.ix.box.cell1
  have hw1 : IntKind.i64.wrap ((n : Int) - 1) = ((n - 1 : Nat) : Int) := by rw [IntKind.wrap_i64]; omega
  have hi1 : ((n - 1 : Nat) : Int) < (n : Int) := by omega
  have hi2 : n - 1 < n := by omega
  clear hE2 hz hS
  by_cases ho : mo < so
  · have q1 : decide (mo < so) = true := decide_eq_true ho
    have HE := hide (show E = decide (mp < sp) by rw [hE3, q1, Bool.true_and])
    clear ho hE3
    go_quiet (fail)
    have HX1 := hide (HX0.out.drewN nq)
    go_wp2_with fail
    go_ret
    exact ⟨by rw [HE.out] <;> rfl, HX1.out.bel⟩
  · have q1 : decide (mo < so) = false := decide_eq_false ho
    have HE := hide (show E = false by rw [hE3, q1, Bool.false_and])
    clear ho hE3
    go_quiet (fail)
    have HX1 := hide (HX0.out.drewN nq)
    go_wp2_with fail
    go_ret
    exact ⟨by rw [HE.out] <;> rfl, HX1.out.bel⟩
end Go.Proofs.Ythbknahmmegcdaa
