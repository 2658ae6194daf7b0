/- Indexes in memory; walks of index.New, none, may, Len. -/
import Derived.Test.YthbknahmmegcdaaBase
import Derived.Deep.DeepCutAuto
namespace Go.Proofs.Ythbknahmmegcdaa
open Go.RowKit

/-- a spot: offset, place -/
structure S2 where
  o : Int
  p : Int
  deriving Inhabited, DecidableEq
def spotV (s : S2) : Array Value := #[.int .i64 s.o, .int .i64 s.p]
def spotCells : List S2 → List Value
  | [] => []
  | s :: l => .int .i64 s.o :: .int .i64 s.p :: spotCells l
theorem spotCells_length (l : List S2) : (spotCells l).length = l.length * 2 := by
  induction l with
  | nil => rfl
  | cons p l ih => simp only [spotCells, List.length_cons, ih]; omega
theorem spotCells_append (a b : List S2) : spotCells (a ++ b) = spotCells a ++ spotCells b := by
  induction a with
  | nil => rfl
  | cons p a ih => simp [spotCells, ih]
theorem spotCells_get (l : List S2) (j : Nat) (h : j < l.length) : (spotCells l)[j * 2]? = some (.int .i64 (l.getD j default).o) ∧ (spotCells l)[j * 2 + 1]? = some (.int .i64 (l.getD j default).p) := by
  induction l generalizing j with
  | nil => simp at h
  | cons p l ih => cases j with
    | zero => simp [spotCells]
    | succ j =>
      have := ih j (by simpa using h)
      rw [show (j + 1) * 2 = j * 2 + 2 by omega]
      simpa [spotCells] using this
theorem spotCells_one (l : List S2) : ∀ u ∈ spotCells l, u.oneCell' = true := by
  induction l with
  | nil => intro u hu; cases hu
  | cons p l ih =>
    intro u hu
    simp only [spotCells, List.mem_cons] at hu
    rcases hu with rfl | rfl | hu
    · rfl
    · rfl
    · exact ih u hu
/-- spots in memory -/
def SpotsAt (w : World) (a : Option Addr) (l : List S2) : Prop :=
  ∀ j, j < l.length → ∃ blk off, a = some ⟨blk, off, none⟩ ∧ w.cell? ⟨blk, off + j * 2, none⟩ = some (.int .i64 (l.getD j default).o) ∧ w.cell? ⟨blk, off + j * 2 + 1, none⟩ = some (.int .i64 (l.getD j default).p)
theorem SpotsAt.below {w w' : World} {a : Option Addr} {l : List S2} {B : Nat} (h : SpotsAt w a l) (hb : Below B w w') (hB : w.heap.size ≤ B) : SpotsAt w' a l := by
  intro j hj
  obtain ⟨blk, off, rfl, h1, h2⟩ := h j hj
  have hlt : blk < B := Nat.lt_of_lt_of_le (World.block_lt_of_cell? w _ h1) hB
  exact ⟨blk, off, rfl, (hb.cell (p := ⟨blk, _, none⟩) hlt).trans h1, (hb.cell (p := ⟨blk, _, none⟩) hlt).trans h2⟩
theorem spots_src {w : World} {a : Option Addr} {l : List S2} (h : SpotsAt w a l) : ∀ ad, a = some ad → ∀ j u, (spotCells l)[j]? = some u → w.cell? (ad.add j) = some u := by
  intro ad had j u hj
  have hjn : j < l.length * 2 := by have := (List.getElem?_eq_some_iff.1 hj).1; rwa [spotCells_length] at this
  obtain ⟨b, off, e, h1, h2⟩ := h (j / 2) (by omega)
  rw [had] at e
  injection e with e
  subst e
  obtain ⟨g1, g2⟩ := spotCells_get l (j / 2) (by omega)
  rw [addr_add]
  have hm : j % 2 = 0 ∨ j % 2 = 1 := by omega
  rcases hm with hm | hm
  · have ej : j = j / 2 * 2 := by omega
    rw [ej] at hj ⊢
    rw [g1] at hj
    rw [h1, ← hj]
  · have ej : j = j / 2 * 2 + 1 := by omega
    rw [ej] at hj ⊢
    rw [g2] at hj
    rw [← Nat.add_assoc, h2, ← hj]
/-- a row of spots of the call's own -/
def OwnSpots (w : World) (base : Nat) (v : Value) (l : List S2) : Prop := w.ownsRow base 31 2 v l.length (spotCells l)
theorem OwnSpots.any {w : World} {base : Nat} {v : Value} {l : List S2} (h : OwnSpots w base v l) :
    ∃ ao cap, v = .slice ao l.length cap ∧ l.length ≤ cap ∧ (ao = none → l.length = 0 ∧ cap = 0) ∧ SpotsAt w ao l ∧ (∀ b off, ao = some ⟨b, off, none⟩ → base ≤ b ∧ b < w.heap.size ∧ off = 0) := by
  have h' := h
  rcases h.2 with ⟨rfl, h0⟩ | ⟨g, cap, cur, rfl, h1, h2, h3, h4, h5, h6⟩
  · exact ⟨none, 0, by rw [h0], by omega, fun _ => ⟨h0, rfl⟩, (fun j hj => by omega), (fun b off e => by cases e)⟩
  · refine ⟨_, cap, rfl, h3, (fun e => by cases e), fun j hj => ⟨g, 0, rfl, ?_⟩, fun b off e => by injection e with e; injection e with e1 e2; subst e1 e2; exact ⟨h1, (Array.getElem?_eq_some_iff.1 h2).1, rfl⟩⟩
    obtain ⟨g1, g2⟩ := spotCells_get l j hj
    have c1 := h'.cells (g := g) rfl (j * 2) _ g1
    have c2 := h'.cells (g := g) rfl (j * 2 + 1) _ g2
    rw [addr_add] at c1 c2
    exact ⟨c1, by rw [Nat.add_assoc]; exact c2⟩
theorem OwnSpots.row {w : World} {base : Nat} {v : Value} {l : List S2} (h : OwnSpots w base v l) (hn : 0 < l.length) :
    ∃ rb cap, v = .slice (some ⟨rb, 0, none⟩) l.length cap ∧ base ≤ rb ∧ rb < w.heap.size ∧ l.length ≤ cap ∧ SpotsAt w (some ⟨rb, 0, none⟩) l := by
  obtain ⟨ao, cap, rfl, h1, h2, h3, h4⟩ := h.any
  obtain ⟨b, off, rfl, _⟩ := h3 0 hn
  obtain ⟨h5, h6, rfl⟩ := h4 b off rfl
  exact ⟨b, cap, rfl, h5, h6, h1, h3⟩
/-- a box that holds an index -/
def BoxI (w : World) (g : Nat) (st : Int) (v : Value) : Prop := w.heap[g]? = some (.cells #[.int .i64 st, v] 55 (0, 0))
theorem BoxI.lt {w : World} {g : Nat} {st : Int} {v : Value} (h : BoxI w g st v) : g < w.heap.size := (Array.getElem?_eq_some_iff.1 h).1
theorem BoxI.same {w w' : World} {g : Nat} {st : Int} {v : Value} (h : BoxI w g st v) (hB : Below w.heap.size w w') : BoxI w' g st v := (hB.block g h.lt).trans h
theorem BoxI.new (w : World) (st : Int) (v : Value) : BoxI (w.alloc (.cells #[.int .i64 st, v] 55)) w.heap.size st v := heap_alloc_new w _
theorem BoxI.cell0 {w : World} {g : Nat} {st : Int} {v : Value} (h : BoxI w g st v) : w.cell? ⟨g, 0, none⟩ = some (.int .i64 st) := by rw [cell_of_row w g 0 _ _ _ h]; rfl
theorem BoxI.cell1 {w : World} {g : Nat} {st : Int} {v : Value} (h : BoxI w g st v) : w.cell? ⟨g, 1, none⟩ = some v := by rw [cell_of_row w g 1 _ _ _ h]; rfl
theorem BoxI.free {w : World} {g : Nat} {st : Int} {v : Value} (h : BoxI w g st v) (j : Nat) : w.frozen? ⟨g, j, none⟩ = false := frozen_of_row w g j _ _ h
theorem BoxI.set1 {w : World} {g : Nat} {st : Int} {v : Value} (h : BoxI w g st v) (v' : Value) : BoxI (w.setCell ⟨g, 1, none⟩ v') g st v' := by
  unfold BoxI
  rw [setCell_eq_setRow w g 1 _ _ _ _ h]
  exact setRow_heap w g _ _ _ _ h
/-- an index in memory: its box, its row -/
structure IxAt (w : World) (base g : Nat) (st : Int) (l : List S2) (v : Value) : Prop where
  box : BoxI w g st v
  own : OwnSpots w base v l
theorem kept_below2 {w w' : World} {B T n : Nat} {v : Value} {xs : List Value} (h : w.ownsRow B T 2 v n xs) (hb : Below w.heap.size w w') : w'.ownsRow B T 2 v n xs :=
  h.kept (row := none) ⟨hb.os, hb.tape, hb.output, hb.size, fun i hi _ => hb.block i hi⟩ (by cases v.ownBlock <;> simp)
theorem IxAt.call {w w' : World} {base g : Nat} {st : Int} {l : List S2} {v : Value} (h : IxAt w base g st l v) (hB : Below w.heap.size w w') : IxAt w' base g st l v :=
  ⟨h.box.same hB, kept_below2 h.own hB⟩

theorem none_nil (w : World) : Calls Try.prog 26 #[.pointer none] w fun e w' => e = .returned (.bool true) ∧ w = w' := by
  go_enter Try.func26, Try.ntmps26
  go_wp2
  go_ret
  exact ⟨rfl, rfl⟩
theorem none_ok {w : World} {g : Nat} {st : Int} {v : Value} (h : BoxI w g st v) : Calls Try.prog 26 #[.pointer (some ⟨g, 0, none⟩)] w fun e w' => e = .returned (.bool (st == 0)) ∧ w = w' := by
  have h0 := h.cell0
  clear h
  go_enter Try.func26, Try.ntmps26
  go_wp2
  go_ret
  exact ⟨rfl, rfl⟩
theorem Len_nil (w : World) : Calls Try.prog 14 #[.pointer none] w fun e w' => e = .returned (.int .i64 0) ∧ w = w' := by
  go_enter Try.func14, Try.ntmps14
  go_wp2_with (go_at_call 26; with_reducible refine (none_nil _).mono ?_; rintro e w' ⟨rfl, rfl⟩)
  go_ret
  exact ⟨rfl, rfl⟩
theorem Len_zero {w : World} {g : Nat} {v : Value} (h : BoxI w g 0 v) : Calls Try.prog 14 #[.pointer (some ⟨g, 0, none⟩)] w fun e w' => e = .returned (.int .i64 0) ∧ w = w' := by
  have HN := hide (none_ok h)
  clear h
  go_enter Try.func14, Try.ntmps14
  go_wp2_with (go_at_call 26; refine HN.out.mono ?_; rintro e w' ⟨rfl, rfl⟩)
  go_ret
  exact ⟨rfl, rfl⟩
theorem Len_ok {w : World} {base g : Nat} {st : Int} {l : List S2} {v : Value} (h : IxAt w base g st l v) (hst : st ≠ 0) : Calls Try.prog 14 #[.pointer (some ⟨g, 0, none⟩)] w fun e w' => e = .returned (.int .i64 (l.length : Nat)) ∧ w = w' := by
  have HN := hide (none_ok h.box)
  have q : (st == 0) = false := beq_eq_false_iff_ne.2 hst
  obtain ⟨ao, cap, rfl, _⟩ := h.own.any
  have h1 := h.box.cell1
  clear h hst
  generalize l.length = n at *
  go_enter Try.func14, Try.ntmps14
  go_wp2_with (go_at_call 26; refine HN.out.mono ?_; rintro e w' ⟨rfl, rfl⟩)
  go_ret
  exact ⟨rfl, rfl⟩
theorem New_ok (st : Int) (h1 : 1 ≤ st) (h2 : st ≤ 16777216) (w : World) : Calls Try.prog 9 #[.int .i64 st] w fun e w' => e = .returned (.tuple #[.pointer (some ⟨w.heap.size, 0, none⟩), .int .i64 0]) ∧ w' = w.alloc (.cells #[.int .i64 st, .slice none 0 0] 55) := by
  have d1 : decide (st < 1) = false := decide_eq_false (by omega)
  have d2 : decide (16777216 < st) = false := decide_eq_false (by omega)
  clear h1 h2
  go_enter Try.func9, Try.ntmps9
  go_wp2
  go_ret2
  exact ⟨rfl, rfl⟩
theorem New_no (st : Int) (h : st < 1 ∨ 16777216 < st) (w : World) : Calls Try.prog 9 #[.int .i64 st] w fun e w' => e = .returned (.tuple #[.pointer none, .int .i64 2]) ∧ w = w' := by
  by_cases h1 : st < 1
  · have d1 : decide (st < 1) = true := decide_eq_true h1
    clear h h1
    go_enter Try.func9, Try.ntmps9
    go_wp2
    go_ret2
    exact ⟨rfl, rfl⟩
  · have d1 : decide (st < 1) = false := decide_eq_false h1
    have d2 : decide (16777216 < st) = true := decide_eq_true (by omega)
    clear h h1
    go_enter Try.func9, Try.ntmps9
    go_wp2
    go_ret2
    exact ⟨rfl, rfl⟩
end Go.Proofs.Ythbknahmmegcdaa
