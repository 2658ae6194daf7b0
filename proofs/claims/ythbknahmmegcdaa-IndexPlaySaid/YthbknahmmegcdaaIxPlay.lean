/- IndexPlay's state: an index and the reference's, apart from each other; what each call does to it. -/
import Derived.Test.YthbknahmmegcdaaIxTells
import Derived.Test.YthbknahmmegcdaaIxRefFind
import Derived.Test.YthbknahmmegcdaaIxRefCut
import Derived.LaidEqlPtr
namespace Go.Proofs.Ythbknahmmegcdaa
open Go.RowKit Go.Shelf
set_option linter.unusedVariables false

theorem cells_ne {w : World} {a b : Nat} {c1 c2 : Array Value} {T1 T2 : TypeId} (h1 : w.heap[a]? = some (.cells c1 T1 (0, 0))) (h2 : w.heap[b]? = some (.cells c2 T2 (0, 0))) (hT : T1 ≠ T2) : a ≠ b := by
  intro e
  subst e
  rw [h1] at h2
  injection h2 with h2
  injection h2 with _ h2
  exact hT h2
theorem box_keptX {w w' : World} {g B : Nat} {rb : Option Nat} {o : Obj} (hk : KeptX w w' g rb) (hb : w.heap[B]? = some o) (h1 : B ≠ g) (h2 : some B ≠ rb) : w'.heap[B]? = some o :=
  (hk.block B (Array.getElem?_eq_some_iff.1 hb).1 h1 h2).trans hb
theorem own_keptX {w w' : World} {g : Nat} {rb : Option Nat} (hk : KeptX w w' g rb) {base : Nat} {e : TypeId} {size n : Nat} {v : Value} {xs : List Value} (h : w.ownsRow base e size v n xs) (h1 : v.ownBlock ≠ some g) (h2 : ∀ b, v.ownBlock = some b → rb ≠ some b) : w'.ownsRow base e size v n xs := by
  rcases h.2 with h0 | ⟨b, cap, cur, rfl, hb, hbb, hr⟩
  · exact ⟨h.1, .inl h0⟩
  · refine ⟨h.1, .inr ⟨b, cap, cur, rfl, hb, box_keptX hk hbb (fun e => h1 (by rw [← e]; rfl)) (fun e => h2 b rfl e.symm), hr⟩⟩

/-- an index and the reference's, apart -/
structure PI (w0 : World) (g gr : Nat) (st : Int) (l1 l2 : List S2) (W : World) : Prop where
  bel : Below w0.heap.size w0 W
  glo : w0.heap.size ≤ g
  rlo : w0.heap.size ≤ gr
  ix : ∃ v u, IxAt W w0.heap.size g st l1 v ∧ RefO W w0.heap.size gr st l2 u ∧ (∀ b, v.ownBlock = some b → u.ownBlock ≠ some b)
theorem PI.call {w0 W W' : World} {g gr : Nat} {st : Int} {l1 l2 : List S2} (h : PI w0 g gr st l1 l2 W) (hB : Below W.heap.size W W') : PI w0 g gr st l1 l2 W' := by
  obtain ⟨v, u, h1, h2, h3⟩ := h.ix
  exact ⟨h.bel.trans (hB.mono h.bel.size), h.glo, h.rlo, v, u, h1.call hB, h2.call hB, h3⟩
/-- the index anew -/
theorem PI.renew {w0 W W' : World} {g gr g2 B : Nat} {st : Int} {l : List S2} {v2 : Value} (h : PI w0 g gr st l l W) (hB : Below W.heap.size W W') (hx : IxAt W' B g2 st l v2) (hBB : W.heap.size ≤ B) (hg2 : W.heap.size ≤ g2) : PI w0 g2 gr st l l W' := by
  obtain ⟨v, u, h1, h2, h3⟩ := h.ix
  refine ⟨h.bel.trans (hB.mono h.bel.size), Nat.le_trans h.bel.size hg2, h.rlo, v2, u, ⟨hx.box, own_base hx.own (Nat.le_trans h.bel.size hBB)⟩, h2.call hB, fun b e1 e2 => ?_⟩
  have k1 := (hx.own.lt b e1).1
  have k2 := (h2.own.lt b e2).2
  omega
/-- a step's box lies as it lay -/
def StepK (W W' : World) : Prop := ∀ (B : Nat) (cs : Array Value), W.heap[B]? = some (.cells cs 61 (0, 0)) → W'.heap[B]? = some (.cells cs 61 (0, 0))
theorem StepK.of_below {W W' : World} (h : Below W.heap.size W W') : StepK W W' := fun B cs hb => (h.block B (Array.getElem?_eq_some_iff.1 hb).1).trans hb
theorem PI.stepX {w0 W W' : World} {g gr : Nat} {st : Int} {l1 l2 l1' : List S2} {v v' u : Value} (h : PI w0 g gr st l1 l2 W) (h1 : IxAt W w0.heap.size g st l1 v) (h2 : RefO W w0.heap.size gr st l2 u) (h3 : ∀ b, v.ownBlock = some b → u.ownBlock ≠ some b)
    (k1 : IxAt W' w0.heap.size g st l1' v') (k2 : KeptX W W' g v.ownBlock) (k3 : v'.ownBlock = v.ownBlock ∨ ∃ r, v'.ownBlock = some r ∧ W.heap.size ≤ r) : PI w0 g gr st l1' l2 W' ∧ StepK W W' := by
  have hgr : gr ≠ g := cells_ne h2.box h1.box (by decide)
  have hr1 : some gr ≠ v.ownBlock := cells_not_row h2.box (by decide) h1.own
  have hr2 : some g ≠ u.ownBlock := cells_not_row h1.box (by decide) h2.own
  refine ⟨⟨k2.below h.bel h.bel.size h.glo (own_lt h1.own), h.glo, h.rlo, v', u, k1, ⟨box_keptX k2 h2.box hgr hr1, own_keptX k2 h2.own (Ne.symm hr2) (fun b e1 e2 => h3 b e2 e1)⟩, fun b e1 e2 => ?_⟩, fun B cs hb => box_keptX k2 hb (cells_ne hb h1.box (by decide)) (cells_not_row hb (by decide) h1.own)⟩
  rcases k3 with k3 | ⟨r, k3, k4⟩
  · exact h3 b (k3.symm.trans e1) e2
  · rw [k3] at e1
    injection e1 with e1
    have := (h2.own.lt b e2).2
    omega
theorem PI.stepR {w0 W W' : World} {g gr : Nat} {st : Int} {l1 l2 l2' : List S2} {v u u' : Value} (h : PI w0 g gr st l1 l2 W) (h1 : IxAt W w0.heap.size g st l1 v) (h2 : RefO W w0.heap.size gr st l2 u) (h3 : ∀ b, v.ownBlock = some b → u.ownBlock ≠ some b)
    (k1 : RefO W' w0.heap.size gr st l2' u') (k2 : KeptX W W' gr none) (k3 : u'.ownBlock = u.ownBlock ∨ u'.ownBlock = none ∨ ∃ r, u'.ownBlock = some r ∧ W.heap.size ≤ r) : PI w0 g gr st l1 l2' W' ∧ StepK W W' := by
  have hgr : gr ≠ g := cells_ne h2.box h1.box (by decide)
  have hr1 : some gr ≠ v.ownBlock := cells_not_row h2.box (by decide) h1.own
  refine ⟨⟨k2.below h.bel h.bel.size h.rlo (by intro r e; cases e), h.glo, h.rlo, v, u', ⟨box_keptX k2 h1.box (Ne.symm hgr) (by simp), own_keptX k2 h1.own (Ne.symm hr1) (fun b _ e => by cases e)⟩, k1, fun b e1 e2 => ?_⟩, fun B cs hb => box_keptX k2 hb (cells_ne hb h2.box (by decide)) (by simp)⟩
  rcases k3 with k3 | k3 | ⟨r, k3, k4⟩
  · exact h3 b e1 (k3.symm.trans e2)
  · rw [k3] at e2; cases e2
  · rw [k3] at e2
    injection e2 with e2
    have := (h1.own.lt b e1).2
    omega
theorem wf_lo {st : Int} {l : List S2} (h : WF st l) : l.length ≠ 0 → 0 ≤ (lastS l).p := fun h0 => (h.inr (l.length - 1) (by omega)).2.2.1
theorem PI.addX {w0 W : World} {g gr : Nat} {st : Int} {l1 l2 : List S2} (h : PI w0 g gr st l1 l2 W) (hst : st ≠ 0) (hn : l1.length ≤ 8000) (hw : WF st l1) (s : S2) :
    Calls Try.prog 10 #[.pointer (some ⟨g, 0, none⟩), .agg (spotV s)] W fun e w' => e = .returned (.tuple #[.bool (addB st l1 s), .int .i64 (addE l1 s)]) ∧ PI w0 g gr st (addL st l1 s) l2 w' ∧ StepK W w' := by
  obtain ⟨v, u, h1, h2, h3⟩ := h.ix
  refine (Add_ok h1 hst (by omega) (wf_lo hw) h.bel.size s).mono ?_
  rintro e w' ⟨v', rfl, k1, k2, k3⟩
  exact ⟨rfl, h.stepX h1 h2 h3 k1 k2 k3⟩
theorem PI.addR {w0 W : World} {g gr : Nat} {st : Int} {l1 l2 : List S2} (h : PI w0 g gr st l1 l2 W) (hn : l2.length ≤ 8000) (hw : WF st l2) (s : S2) :
    Calls Try.prog 22 #[.pointer (some ⟨gr, 0, none⟩), .agg (spotV s)] W fun e w' => e = .returned (.tuple #[.bool (addB st l2 s), .int .i64 (addE l2 s)]) ∧ PI w0 g gr st l1 (addL st l2 s) w' ∧ StepK W w' := by
  obtain ⟨v, u, h1, h2, h3⟩ := h.ix
  refine (refAdd_ok h2 (by omega) (wf_lo hw) h.bel.size s).mono ?_
  rintro e w' ⟨u', rfl, k1, k2, k3⟩
  exact ⟨rfl, h.stepR h1 h2 h3 k1 k2 k3⟩
theorem PI.cutX {w0 W : World} {g gr : Nat} {st : Int} {l1 l2 : List S2} (h : PI w0 g gr st l1 l2 W) (hst : st ≠ 0) (hn : l1.length ≤ 8000) (hw : WF st l1) (x : Int) :
    Calls Try.prog 12 #[.pointer (some ⟨g, 0, none⟩), .int .i64 x] W fun e w' => e = .returned (.int .i64 ((l1.length : Int) - (cutN x l1 : Nat))) ∧ PI w0 g gr st (l1.take (cutN x l1)) l2 w' ∧ StepK W w' := by
  obtain ⟨v, u, h1, h2, h3⟩ := h.ix
  refine (Cut_ok x h1 hst (by omega) h.bel.size (rising_cut hw.rise x)).mono ?_
  rintro e w' ⟨v', rfl, k1, k2, k3⟩
  exact ⟨rfl, h.stepX h1 h2 h3 k1 k2 (.inl k3)⟩
theorem PI.cutR {w0 W : World} {g gr : Nat} {st : Int} {l1 l2 : List S2} (h : PI w0 g gr st l1 l2 W) (hn : l2.length ≤ 8000) (x : Int) :
    Calls Try.prog 25 #[.pointer (some ⟨gr, 0, none⟩), .int .i64 x] W fun e w' => e = .returned (.int .i64 ((l2.length : Int) - (cutN x l2 : Nat))) ∧ PI w0 g gr st l1 (l2.take (cutN x l2)) w' ∧ StepK W w' := by
  obtain ⟨v, u, h1, h2, h3⟩ := h.ix
  refine (refCut_ok x h2 (by omega) h.bel.size).mono ?_
  rintro e w' ⟨u', rfl, k1, k2, k3⟩
  exact ⟨rfl, h.stepR h1 h2 h3 k1 k2 k3⟩
theorem PI.findX {w0 W : World} {g gr : Nat} {st : Int} {l1 l2 : List S2} (h : PI w0 g gr st l1 l2 W) (hst : st ≠ 0) (hn : l1.length ≤ 8000) (hw : WF st l1) (x : Int) :
    Calls Try.prog 15 #[.pointer (some ⟨g, 0, none⟩), .int .i64 x] W fun e w' => e = .returned (.tuple #[.agg (spotV (lastR (fun s => decide (x < s.o)) l1)), .bool (lastB (fun s => decide (x < s.o)) l1)]) ∧ Below W.heap.size W w' := by
  obtain ⟨v, u, h1, h2, h3⟩ := h.ix
  exact Find_ok x h1 hst (by omega) hw.rise.mono
theorem PI.findR {w0 W : World} {g gr : Nat} {st : Int} {l1 l2 : List S2} (h : PI w0 g gr st l1 l2 W) (hn : l2.length ≤ 8000) (hw : WF st l2) (x : Int) :
    Calls Try.prog 23 #[.pointer (some ⟨gr, 0, none⟩), .int .i64 x] W fun e w' => e = .returned (.tuple #[.agg (spotV (lastR (fun s => decide (x < s.o)) l2)), .bool (lastB (fun s => decide (x < s.o)) l2)]) ∧ Below W.heap.size W w' := by
  obtain ⟨v, u, h1, h2, h3⟩ := h.ix
  exact refFind_ok x h2 (by omega) hw.rise.mono
theorem wf_monop {st : Int} {l : List S2} (hw : WF st l) : ∀ a b, a ≤ b → b < l.length → (l.getD a default).p ≤ (l.getD b default).p := fun a b hab hb => by
  by_cases e : a = b
  · rw [e]; exact Int.le_refl _
  · have := (hw.rise a b (by omega) hb).2; omega
theorem PI.atX {w0 W : World} {g gr : Nat} {st : Int} {l1 l2 : List S2} (h : PI w0 g gr st l1 l2 W) (hst : st ≠ 0) (hn : l1.length ≤ 8000) (hw : WF st l1) (x : Int) :
    Calls Try.prog 18 #[.pointer (some ⟨g, 0, none⟩), .int .i64 x] W fun e w' => e = .returned (.tuple #[.agg (spotV (lastR (fun s => decide (x < s.p)) l1)), .bool (lastB (fun s => decide (x < s.p)) l1)]) ∧ Below W.heap.size W w' := by
  obtain ⟨v, u, h1, h2, h3⟩ := h.ix
  exact At_ok x h1 hst (by omega) (wf_monop hw)
theorem PI.atR {w0 W : World} {g gr : Nat} {st : Int} {l1 l2 : List S2} (h : PI w0 g gr st l1 l2 W) (hn : l2.length ≤ 8000) (hw : WF st l2) (x : Int) :
    Calls Try.prog 24 #[.pointer (some ⟨gr, 0, none⟩), .int .i64 x] W fun e w' => e = .returned (.tuple #[.agg (spotV (lastR (fun s => decide (x < s.p)) l2)), .bool (lastB (fun s => decide (x < s.p)) l2)]) ∧ Below W.heap.size W w' := by
  obtain ⟨v, u, h1, h2, h3⟩ := h.ix
  exact refAt_ok x h2 (by omega) (wf_monop hw)
theorem PI.tells {w0 W : World} {g gr : Nat} {st : Int} {l : List S2} (h : PI w0 g gr st l l W) (h1 : 1 ≤ st) (h2 : st ≤ 16777216) (hn : l.length ≤ 8000) :
    Calls Try.prog 20 #[.pointer (some ⟨g, 0, none⟩), .pointer (some ⟨gr, 0, none⟩)] W fun e w' => e = .returned (.bool true) ∧ Below W.heap.size W w' := by
  obtain ⟨v, u, k1, k2, _⟩ := h.ix
  obtain ⟨ao, cap, rfl, hr⟩ := k2.at
  exact tells_ok k1 hr h1 h2 hn
theorem PI.glt {w0 W : World} {g gr : Nat} {st : Int} {l1 l2 : List S2} (h : PI w0 g gr st l1 l2 W) : g < W.heap.size := by
  obtain ⟨v, u, k1, _⟩ := h.ix
  exact k1.box.lt
theorem PI.copy {w0 W : World} {g gr : Nat} {st : Int} {l : List S2} (h : PI w0 g gr st l l W) (hst : st ≠ 0) (hn : l.length ≤ 8000) :
    Calls Try.prog 11 #[.pointer (some ⟨g, 0, none⟩)] W fun e w' => ∃ g2 v2, e = .returned (.pointer (some ⟨g2, 0, none⟩)) ∧ IxAt w' W.heap.size g2 st l v2 ∧ W.heap.size ≤ g2 ∧ Below W.heap.size W w' := by
  obtain ⟨v, u, k1, _⟩ := h.ix
  exact Copy_ok k1 hst (by omega)
theorem PI.bytes {w0 W : World} {g gr : Nat} {st : Int} {l : List S2} (h : PI w0 g gr st l l W) (h1 : 1 ≤ st) (h2 : st ≤ 16777216) (hn : l.length ≤ 8000) :
    Calls Try.prog 16 #[.pointer (some ⟨g, 0, none⟩)] W fun e w' => ∃ v', e = .returned (.tuple #[v', .int .i64 0]) ∧ w'.ownsRow W.heap.size 5 1 v' (bytesL st l).length (byteC (bytesL st l)) ∧ Below W.heap.size W w' := by
  obtain ⟨v, u, k1, _⟩ := h.ix
  exact Bytes_ok k1 h1 h2 hn

theorem Try.sizeI : (Try.prog.info? 55).map (·.size) = some 2 := by kernel_rfl
theorem ptr_ne {W : World} {g2 g : Nat} {s2 s : Int} {v2 v : Value} (h2 : BoxI W g2 s2 v2) (h : BoxI W g s v) (hne : g2 ≠ g) :
    (binOp .eql 24 (.pointer (some ⟨g2, 0, none⟩)) (.pointer (some ⟨g, 0, none⟩))).run Try.prog W = .ok (.bool false) W := by
  obtain ⟨j, hj, hjs⟩ := Option.map_eq_some_iff.1 Try.sizeI
  exact run_eql_ptr_other W Try.underlying24 hj (by rw [hjs]; decide) (fun e => hne (by injection e)) h2 h
/-- bytes that are written on -/
structure BL (W : World) (rb n : Nat) (wr : World) : Prop where
  grown : W.grownBy wr (some rb)
  row : ∃ cur : Array Value, wr.heap[rb]? = some (.cells cur 5 (0, 0)) ∧ ∀ j, j < n → ∃ c : Int, cur[j]? = some (.int .u8 c)
theorem BL.cell {W wr : World} {rb n : Nat} (h : BL W rb n wr) {j : Nat} (hj : j < n) : ∃ c : Int, wr.cell? ⟨rb, j, none⟩ = some (.int .u8 c) ∧ wr.frozen? ⟨rb, j, none⟩ = false := by
  obtain ⟨cur, h1, h2⟩ := h.row
  obtain ⟨c, hc⟩ := h2 j hj
  exact ⟨c, by rw [cell_of_row _ _ _ _ _ _ h1]; exact hc, frozen_of_row _ _ _ _ _ h1⟩
theorem BL.set {W wr : World} {rb n : Nat} (h : BL W rb n wr) (j : Nat) (c : Int) : BL W rb n (wr.setCell ⟨rb, j, none⟩ (.int .u8 c)) := by
  obtain ⟨cur, h1, h2⟩ := h.row
  refine ⟨⟨h.grown.os, h.grown.tape, h.grown.output, by simpa [World.setCell] using h.grown.size, fun k hk hne => (Below.heap_setCell _ _ _ k (fun e => hne (by rw [e]))).trans (h.grown.block k hk hne)⟩, cur.setIfInBounds j (.int .u8 c), ?_, fun i hi => ?_⟩
  · rw [setCell_eq_setRow _ rb j _ _ _ _ h1]
    exact setRow_heap _ _ _ _ _ _ h1
  · obtain ⟨c2, h3⟩ := h2 i hi
    rw [Array.getElem?_setIfInBounds]
    split
    · split
      · exact ⟨c, rfl⟩
      · rename_i h4 h5
        subst h4
        rw [Array.getElem?_eq_none (by omega)] at h3
        cases h3
    · exact ⟨c2, h3⟩
theorem BL.new {W : World} {base : Nat} {a : Option Addr} {n c : Nat} {m : List Nat} (h : W.ownsRow base 5 1 (.slice a n c) n (byteC m)) (hn : 0 < n) : ∃ rb, a = some ⟨rb, 0, none⟩ ∧ base ≤ rb ∧ rb < W.heap.size ∧ n ≤ c ∧ BL W rb n W := by
  have hl := h.1
  rcases h.2 with ⟨_, h0⟩ | ⟨g, cap, cur, e, hb, hbb, hle, _, hsz, htk⟩
  · omega
  · injection e with e1 e2 e3
    subst e1 e3
    refine ⟨g, rfl, hb, (Array.getElem?_eq_some_iff.1 hbb).1, hle, grown_refl _ _, cur, hbb, fun j hj => ?_⟩
    have h1 : (cur.toList.take (n * 1))[j]? = (byteC m)[j]? := by rw [htk]
    rw [List.getElem?_take_of_lt (by omega)] at h1
    rw [byteC_length, Nat.mul_one] at hl
    refine ⟨((m.getD j 0 : Nat) : Int), ?_⟩
    rw [Array.getElem?_toList] at h1
    rw [h1]
    simp [byteC, List.getD_eq_getElem?_getD, show j < m.length by omega]
/-- steps in memory -/
structure St4 where
  k : Int
  o : Int
  p : Int
  n : Int
  deriving Inhabited
def StepsAt (w : World) (a : Option Addr) (n : Nat) (F : Nat → St4) : Prop :=
  ∀ j, j < n → ∃ blk off, a = some ⟨blk, off, none⟩ ∧ w.cell? ⟨blk, off + j * 4, none⟩ = some (.int .i64 (F j).k) ∧ w.cell? ⟨blk, off + j * 4 + 1, none⟩ = some (.int .i64 (F j).o) ∧ w.cell? ⟨blk, off + j * 4 + 2, none⟩ = some (.int .i64 (F j).p) ∧ w.cell? ⟨blk, off + j * 4 + 3, none⟩ = some (.int .i64 (F j).n)
theorem StepsAt.below {w w' : World} {a : Option Addr} {n : Nat} {F : Nat → St4} {B : Nat} (h : StepsAt w a n F) (hb : Below B w w') (hB : w.heap.size ≤ B) : StepsAt w' a n F := by
  intro j hj
  obtain ⟨blk, off, rfl, h1, h2, h3, h4⟩ := h j hj
  have hlt : blk < B := Nat.lt_of_lt_of_le (World.block_lt_of_cell? w _ h1) hB
  exact ⟨blk, off, rfl, (hb.cell (p := ⟨blk, _, none⟩) hlt).trans h1, (hb.cell (p := ⟨blk, _, none⟩) hlt).trans h2, (hb.cell (p := ⟨blk, _, none⟩) hlt).trans h3, (hb.cell (p := ⟨blk, _, none⟩) hlt).trans h4⟩
/-- beside it the step's own box -/
structure PJ (w0 : World) (g gr sb : Nat) (s : St4) (st : Int) (l1 l2 : List S2) (W : World) : Prop where
  pi : PI w0 g gr st l1 l2 W
  box : W.heap[sb]? = some (.cells #[.int .i64 s.k, .int .i64 s.o, .int .i64 s.p, .int .i64 s.n] 61 (0, 0))
theorem PJ.new {w0 W : World} {g gr : Nat} {st : Int} {l1 l2 : List S2} (h : PI w0 g gr st l1 l2 W) (s : St4) : PJ w0 g gr W.heap.size s st l1 l2 (W.alloc (.cells #[.int .i64 s.k, .int .i64 s.o, .int .i64 s.p, .int .i64 s.n] 61)) :=
  ⟨h.call ((Below.refl _ _).alloc (Nat.le_refl _) _), heap_alloc_new W _⟩
theorem PJ.call {w0 W W' : World} {g gr sb : Nat} {s : St4} {st : Int} {l1 l2 : List S2} (h : PJ w0 g gr sb s st l1 l2 W) (hB : Below W.heap.size W W') : PJ w0 g gr sb s st l1 l2 W' := ⟨h.pi.call hB, StepK.of_below hB _ _ h.box⟩
theorem PJ.step {w0 W W' : World} {g gr sb : Nat} {s : St4} {st : Int} {l1 l2 l3 l4 : List S2} (h : PJ w0 g gr sb s st l1 l2 W) (k : PI w0 g gr st l3 l4 W') (hk : StepK W W') : PJ w0 g gr sb s st l3 l4 W' := ⟨k, hk _ _ h.box⟩
theorem PJ.cells {w0 W : World} {g gr sb : Nat} {s : St4} {st : Int} {l1 l2 : List S2} (h : PJ w0 g gr sb s st l1 l2 W) :
    W.cell? ⟨sb, 0, none⟩ = some (.int .i64 s.k) ∧ W.cell? ⟨sb, 1, none⟩ = some (.int .i64 s.o) ∧ W.cell? ⟨sb, 2, none⟩ = some (.int .i64 s.p) ∧ W.cell? ⟨sb, 3, none⟩ = some (.int .i64 s.n) :=
  ⟨by rw [cell_of_row _ _ _ _ _ _ h.box]; rfl, by rw [cell_of_row _ _ _ _ _ _ h.box]; rfl, by rw [cell_of_row _ _ _ _ _ _ h.box]; rfl, by rw [cell_of_row _ _ _ _ _ _ h.box]; rfl⟩
end Go.Proofs.Ythbknahmmegcdaa
