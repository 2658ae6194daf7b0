/- Bits for KeepTells: pieces appended. (Written by wip/gentells.py.) -/
import Derived.Test.YtjgdegkjkedfcaaKeepRefNext
import Derived.Test.YtjgdegkjkedfcaaKeepRefOrd
import Derived.Test.YtjgdegkjkedfcaaFill
namespace Go.Proofs.Ytjgdegkjkedfcaa
open Go.RowKit

def pcsCells : List P3 → List Value
  | [] => []
  | p :: l => .int .i64 p.b :: .int .i64 p.y :: .int .i64 p.t :: pcsCells l
theorem pcsCells_length (l : List P3) : (pcsCells l).length = l.length * 3 := by
  induction l with
  | nil => rfl
  | cons p l ih => simp only [pcsCells, List.length_cons, ih]; omega
theorem pcsCells_append (a b : List P3) : pcsCells (a ++ b) = pcsCells a ++ pcsCells b := by
  induction a with
  | nil => rfl
  | cons p a ih => simp [pcsCells, ih]
theorem pcsCells_get (l : List P3) (j : Nat) (h : j < l.length) : (pcsCells l)[j * 3]? = some (.int .i64 (l.getD j default).b) ∧ (pcsCells l)[j * 3 + 1]? = some (.int .i64 (l.getD j default).y) ∧ (pcsCells l)[j * 3 + 2]? = some (.int .i64 (l.getD j default).t) := by
  induction l generalizing j with
  | nil => simp at h
  | cons p l ih => cases j with
    | zero => simp [pcsCells]
    | succ j =>
      have := ih j (by simpa using h)
      rw [show (j + 1) * 3 = j * 3 + 3 by omega]
      simpa [pcsCells] using this
theorem pcs_src {w : World} {a : Option Addr} {l : List P3} (h : PcsAt w a l) : ∀ ad, a = some ad → ∀ j u, (pcsCells l)[j]? = some u → w.cell? (ad.add j) = some u := by
  intro ad had j u hj
  have hjn : j < l.length * 3 := by have := (List.getElem?_eq_some_iff.1 hj).1; rwa [pcsCells_length] at this
  obtain ⟨b, off, e, h1, h2, h3⟩ := h (j / 3) (by omega)
  rw [had] at e
  injection e with e
  subst e
  obtain ⟨g1, g2, g3⟩ := pcsCells_get l (j / 3) (by omega)
  rw [addr_add]
  have hm : j % 3 = 0 ∨ j % 3 = 1 ∨ j % 3 = 2 := by omega
  rcases hm with hm | hm | hm
  · have ej : j = j / 3 * 3 := by omega
    rw [ej] at hj ⊢
    rw [g1] at hj
    rw [h1, ← hj]
  · have ej : j = j / 3 * 3 + 1 := by omega
    rw [ej] at hj ⊢
    rw [g2] at hj
    rw [← Nat.add_assoc, h2, ← hj]
  · have ej : j = j / 3 * 3 + 2 := by omega
    rw [ej] at hj ⊢
    rw [g3] at hj
    rw [← Nat.add_assoc, h3, ← hj]
theorem pcsCells_one (l : List P3) : ∀ u ∈ pcsCells l, u.oneCell' = true := by
  induction l with
  | nil => intro u hu; cases hu
  | cons p l ih =>
    intro u hu
    simp only [pcsCells, List.mem_cons] at hu
    rcases hu with rfl | rfl | rfl | hu
    · rfl
    · rfl
    · rfl
    · exact ih u hu
theorem own_pcs {w : World} {base : Nat} {v : Value} {l : List P3} (h : w.ownsRow base 24 3 v l.length (pcsCells l)) (hn : 0 < l.length) :
    ∃ g cap, v = .slice (some ⟨g, 0, none⟩) l.length cap ∧ base ≤ g ∧ g < w.heap.size ∧ l.length ≤ cap ∧ PcsAt w (some ⟨g, 0, none⟩) l := by
  have h' := h
  rcases h.2 with ⟨_, h0⟩ | ⟨g, cap, cur, rfl, h1, h2, h3, h4, h5, h6⟩
  · omega
  · refine ⟨g, cap, rfl, h1, (Array.getElem?_eq_some_iff.1 h2).1, h3, fun j hj => ⟨g, 0, rfl, ?_⟩⟩
    obtain ⟨g1, g2, g3⟩ := pcsCells_get l j hj
    have c1 := h'.cells (g := g) rfl (j * 3) _ g1
    have c2 := h'.cells (g := g) rfl (j * 3 + 1) _ g2
    have c3 := h'.cells (g := g) rfl (j * 3 + 2) _ g3
    rw [addr_add] at c1 c2 c3
    exact ⟨c1, by rw [Nat.add_assoc]; exact c2, by rw [Nat.add_assoc]; exact c3⟩
theorem Try.infoP : (Try.prog.info? 24).map (fun i => (i.zero, i.size, i.bytes)) = some (some (.agg #[.int .i64 0, .int .i64 0, .int .i64 0]), 3, 24) := by kernel_rfl
theorem info_pcs : ∃ i, Try.prog.info? 24 = some i ∧ i.zero = some (.agg #[.int .i64 0, .int .i64 0, .int .i64 0]) ∧ i.size = 3 ∧ i.bytes = 24 := by
  have h := Try.infoP
  cases e : Try.prog.info? 24 with
  | none => rw [e] at h; cases h
  | some i =>
    rw [e, Option.map_some] at h
    injection h with h
    injection h with h1 h2
    injection h2 with h2 h3
    exact ⟨i, rfl, h1, h2, h3⟩
theorem below_own3 {w0 w w' : World} {B T m D : Nat} {v : Value} {xs : List Value} (h : Below D w0 w) (ho : w.ownsRow B T 3 v m xs) (hD : D ≤ B) (hs : D ≤ w.heap.size) (hg : w.grownBy w' v.ownBlock) : Below D w0 w' :=
  h.grown hg hs (fun k hk => Nat.le_trans hD (ho.lt k hk).1)
theorem pcs_one_src (w : World) : ∀ j u, [Value.int .i64 77, .int .i64 0, .int .i64 0][j]? = some u → (w.alloc (.cells #[.int .i64 77, .int .i64 0, .int .i64 0] 24)).cell? ((⟨w.heap.size, 0, none⟩ : Addr).add j) = some u := by
  intro j u hj
  rw [addr_add, Nat.zero_add, cell_of_row _ _ _ _ _ _ (heap_alloc_new w _)]
  simpa using hj
end Go.Proofs.Ytjgdegkjkedfcaa
