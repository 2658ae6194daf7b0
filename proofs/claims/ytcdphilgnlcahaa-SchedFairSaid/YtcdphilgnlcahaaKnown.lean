/- Walk of the laws' known(): two tasks. -/
import Derived.Test.YtcdphilgnlcahaaFnext
namespace Go.Proofs.Ytcdphilgnlcahaa
open Go.RowKit

theorem Below.ofGrown {w w' : World} {B g : Nat} {a : World} (h : Below B a w) (hg : w.grownBy w' (some g)) (hB : B ≤ g) (hs : B ≤ w.heap.size) : Below B a w' :=
  h.grown hg hs (fun k hk => by injection hk with e; omega)

theorem known_n1 : fairN 1 (fun _ => 0) (fun _ => true) 2 0 = 0 := by decide
theorem known_n2 : fairN 1 (fairQ (fun _ => 0) (fun _ => true) 0) (fun _ => true) 2 0 = 1 := by decide
theorem known_n3 : nxT (fun j => j != 1) 3 5 = 2 ∧ nxE (fun j => j != 1) 3 5 = 0 := by decide

set_option maxHeartbeats 800000 in
theorem known_ok (w : World) : Calls Try.prog 8 #[] w fun e w' => e = .returned (.bool true) ∧ Below w.heap.size w w' := by
  have hB0 : Below w.heap.size w (w.alloc (.cells #[.bool true, .bool true] 4)) := (Below.refl _ _).alloc (Nat.le_refl _) _
  have hbs : Bools (w.alloc (.cells #[.bool true, .bool true] 4)) (some ⟨w.heap.size, 0, none⟩) 2 (fun _ => true) := by
    intro j hj
    refine ⟨_, _, rfl, ?_⟩
    rw [World.cell?_alloc_at _ _ _ _ rfl]
    match j, hj with
    | 0, _ => rfl
    | 1, _ => rfl
  go_enter Try.func8, Try.ntmps8
  go_wp2_with fail
  refine (New_ok 2 1 _ (by omega) (by omega) (by omega)).mono ?_
  rintro e w1 ⟨fb, gb, cap, rfl, hF1, hf1, hg1, hB1⟩
  simp only [World.size_alloc] at hf1 hg1
  have hb1 := hbs.below hB1
  have hs1 := hB1.size
  simp only [World.size_alloc] at hs1
  have hB1' := hB0.trans (hB1.mono (by simp))
  clear hbs hB1 hB0
  go_wp2_with fail
  refine (Fnext_ok fb gb cap 2 1 _ _ 2 (fun _ => true) 0 w1 (by omega) (by omega) hF1 hb1 (by intro b off e; simp at e; omega) (by omega) (by omega) (by intro j hj; omega)).mono ?_
  rw [known_n1]
  rintro e w2 ⟨rfl, hF2, hG2⟩
  have hb2 : Bools w2 _ 2 _ := hb1.grown hG2 (by intro b off e; simp at e; omega)
  have hB2 : Below w.heap.size w w2 := Below.ofGrown hB1' hG2 (by omega) (by omega)
  have hs2 := hG2.size
  clear hb1 hF1 hG2 hB1'
  go_wp2_with fail
  refine (Fnext_ok fb gb cap 2 1 _ _ 2 (fun _ => true) 0 w2 (by omega) (by omega) hF2 hb2 (by intro b off e; simp at e; omega) (by omega) (by omega) (by intro j hj; unfold fairQ; split <;> simp)).mono ?_
  rw [known_n2]
  rintro e w3 ⟨rfl, hF3, hG3⟩
  have hB3 : Below w.heap.size w w3 := Below.ofGrown hB2 hG3 (by omega) (by omega)
  have hs3 := hG3.size
  clear hb2 hF2 hG3 hB2 hF3
  go_wp2_with fail
  refine (Next_any _ 3 3 (fun j => j != 1) 5 _ (by omega) (by omega) ?_).mono ?_
  · intro j hj
    refine ⟨w3.heap.size, 0, rfl, ?_⟩
    rw [World.cell?_alloc_at _ _ _ _ rfl]
    match j, hj with
    | 0, _ => rfl
    | 1, _ => rfl
    | 2, _ => rfl
  rw [known_n3.1, known_n3.2]
  rintro e w4 ⟨rfl, hB4⟩
  go_wp2
  go_ret
  exact ⟨rfl, (hB3.alloc (by omega) _).trans (hB4.mono (by simp; omega))⟩
end Go.Proofs.Ytcdphilgnlcahaa
