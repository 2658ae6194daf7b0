/- Walks of sched.New, (*Fair).Copy, (*Fair).Passed, slices.Clone at int. -/
import Derived.Test.YtcdphilgnlcahaaPick
import Derived.Deep.RegionWith
import Derived.Laws.Pointers
import Derived.WalkSpells
namespace Go.Proofs.Ytcdphilgnlcahaa
open Go.RowKit

/-- n ints as values -/
def vals (q : Nat → Int) (n : Nat) : List Value := (List.range n).map fun j => .int .i64 (q j)
@[simp] theorem vals_length (q : Nat → Int) (n : Nat) : (vals q n).length = n := by simp [vals]
theorem vals_get (q : Nat → Int) (n j : Nat) (h : j < n) : (vals q n)[j]? = some (.int .i64 (q j)) := by simp [vals, h]
theorem vals_one (q : Nat → Int) (n : Nat) : ∀ u ∈ vals q n, u.oneCell' = true := by
  intro u hu; simp only [vals, List.mem_map] at hu; obtain ⟨j, _, rfl⟩ := hu; rfl

/-- a Fair in memory: k, and the counts q of n tasks -/
structure FairAt (w : World) (fb gb cap : Nat) (k : Int) (n : Nat) (q : Nat → Int) : Prop where
  ne : fb ≠ gb
  f : ∃ T, w.heap[fb]? = some (.cells #[.int .i64 k, .slice (some ⟨gb, 0, none⟩) n cap] T (0, 0))
  g : ∃ cur, w.heap[gb]? = some (.cells cur 3 (0, 0)) ∧ cur.size = cap ∧ ∀ j, j < n → cur[j]? = some (.int .i64 (q j))

theorem FairAt.cellk {w : World} {fb gb cap n : Nat} {k : Int} {q : Nat → Int} (h : FairAt w fb gb cap k n q) : w.cell? ⟨fb, 0, none⟩ = some (.int .i64 k) := by
  obtain ⟨T, hf⟩ := h.f
  simp [World.cell?, hf]
theorem FairAt.cells {w : World} {fb gb cap n : Nat} {k : Int} {q : Nat → Int} (h : FairAt w fb gb cap k n q) : w.cell? ⟨fb, 1, none⟩ = some (.slice (some ⟨gb, 0, none⟩) n cap) := by
  obtain ⟨T, hf⟩ := h.f
  simp [World.cell?, hf]
theorem FairAt.cell {w : World} {fb gb cap n : Nat} {k : Int} {q : Nat → Int} (h : FairAt w fb gb cap k n q) (j : Nat) (hj : j < n) : w.cell? ⟨gb, j, none⟩ = some (.int .i64 (q j)) := by
  obtain ⟨cur, hg, _, hc⟩ := h.g
  simp [World.cell?, hg, hc j hj]
theorem FairAt.free {w : World} {fb gb cap n : Nat} {k : Int} {q : Nat → Int} (h : FairAt w fb gb cap k n q) (j : Nat) : w.frozen? ⟨gb, j, none⟩ = false := by
  obtain ⟨cur, hg, _, hc⟩ := h.g
  simp [World.frozen?, hg]
theorem FairAt.lt {w : World} {fb gb cap n : Nat} {k : Int} {q : Nat → Int} (h : FairAt w fb gb cap k n q) : fb < w.heap.size ∧ gb < w.heap.size := by
  obtain ⟨cur, hg, _, hc⟩ := h.g
  obtain ⟨T, hf⟩ := h.f
  exact ⟨(Array.getElem?_eq_some_iff.1 hf).1, (Array.getElem?_eq_some_iff.1 hg).1⟩
theorem FairAt.same {w w' : World} {fb gb cap n : Nat} {k : Int} {q : Nat → Int} (h : FairAt w fb gb cap k n q) (hf : w'.heap[fb]? = w.heap[fb]?) (hg : w'.heap[gb]? = w.heap[gb]?) : FairAt w' fb gb cap k n q :=
  ⟨h.ne, by obtain ⟨T, e⟩ := h.f; exact ⟨T, hf.trans e⟩, by rw [hg]; exact h.g⟩
theorem FairAt.below {w w' : World} {fb gb cap n : Nat} {k : Int} {q : Nat → Int} (h : FairAt w fb gb cap k n q) (hb : Below w.heap.size w w') : FairAt w' fb gb cap k n q :=
  h.same (hb.block _ h.lt.1) (hb.block _ h.lt.2)
theorem FairAt.set {w : World} {fb gb cap n : Nat} {k : Int} {q q' : Nat → Int} (h : FairAt w fb gb cap k n q) (i : Nat) (x : Int) (hi : q' i = x) (ho : ∀ j, j ≠ i → q' j = q j) :
    FairAt (w.setCell ⟨gb, i, none⟩ (.int .i64 x)) fb gb cap k n q' := by
  refine ⟨h.ne, by obtain ⟨T, e⟩ := h.f; exact ⟨T, (Below.heap_setCell _ _ _ _ h.ne).trans e⟩, ?_⟩
  obtain ⟨cur, hg, hz, hc⟩ := h.g
  have hlt := (Array.getElem?_eq_some_iff.1 hg).1
  refine ⟨cur.setIfInBounds i (.int .i64 x), ?_, by simpa using hz, fun j hj => ?_⟩
  · rw [World.setCell]
    simp only [Array.getElem?_modify, if_true, hg]
    simp
  · by_cases e : j = i
    · subst e
      have h1 := hc j hj
      have h2 := (Array.getElem?_eq_some_iff.1 h1).1
      simp [hi, h2]
    · rw [Array.getElem?_setIfInBounds_ne (by omega), hc j hj, ho j e]
theorem FairAt.ints {w : World} {fb gb cap n : Nat} {k : Int} {q : Nat → Int} (h : FairAt w fb gb cap k n q) : Ints w (some ⟨gb, 0, none⟩) n q :=
  fun j hj => ⟨gb, 0, rfl, by simpa using h.cell j hj⟩

theorem FairAt.made {T : TypeId} {w : World} {g cap n : Nat} {k : Int} {q : Nat → Int} {cur : Array Value} (h1 : w.heap[g]? = some (.cells cur 3 (0, 0))) (h2 : cur.size = cap) (h3 : ∀ j, j < n → cur[j]? = some (.int .i64 (q j))) :
    FairAt (w.alloc (.cells #[.int .i64 k, .slice (some ⟨g, 0, none⟩) n cap] T)) w.heap.size g cap k n q := by
  have hlt := (Array.getElem?_eq_some_iff.1 h1).1
  exact ⟨by omega, ⟨_, heap_alloc_new _ _⟩, cur, by rw [Below.heap_alloc _ _ _ hlt]; exact h1, h2, h3⟩

theorem own_ints {w : World} {base : Nat} {v : Value} {n : Nat} {q : Nat → Int} (h : w.ownsRow base 3 1 v n (vals q n)) (hn : 0 < n) :
    ∃ g cap cur, v = .slice (some ⟨g, 0, none⟩) n cap ∧ base ≤ g ∧ w.heap[g]? = some (.cells cur 3 (0, 0)) ∧ cur.size = cap ∧ ∀ j, j < n → cur[j]? = some (.int .i64 (q j)) := by
  rcases h.2 with ⟨_, h0⟩ | ⟨g, cap, cur, rfl, h1, h2, h3, h4, h5, h6⟩
  · omega
  · refine ⟨g, cap, cur, rfl, h1, h2, by omega, fun j hj => ?_⟩
    have := vals_get q n j hj
    rw [← h6, List.getElem?_take] at this
    simpa [hj] using this

/-- New refuses -/
theorem New_bad (t k : Int) (w : World) (h : t < 1 ∨ 65536 < t ∨ k < 0) :
    Calls Try.prog 14 #[.int .i64 t, .int .i64 k] w fun e w' => e = .returned (.tuple #[.pointer none, .int .i64 2]) ∧ w = w' := by
  by_cases h1 : t < 1
  · go_enter Try.func14, Try.ntmps14
    go_wp2
    go_ret2
    exact ⟨rfl, rfl⟩
  · by_cases h2 : 65536 < t
    · go_enter Try.func14, Try.ntmps14
      go_wp2
      go_ret2
      exact ⟨rfl, rfl⟩
    · have h3 : k < 0 := by omega
      clear h
      go_enter Try.func14, Try.ntmps14
      go_wp2
      go_ret2
      exact ⟨rfl, rfl⟩

theorem made_zero (n : Nat) : (madeCells (Value.int .i64 0).cells (n * 1)).toList = vals (fun _ => 0) n := by
  rw [Nat.mul_one]; apply List.ext_getElem?; intro j; by_cases h : j < n <;> simp [madeCells, vals, h, Value.cells, Nat.mod_one]

theorem New_ok (n : Nat) (k : Int) (w : World) (h1 : 1 ≤ n) (h2 : n ≤ 65536) (h3 : 0 ≤ k) :
    Calls Try.prog 14 #[.int .i64 n, .int .i64 k] w fun e w' => ∃ fb gb cap, e = .returned (.tuple #[.pointer (some ⟨fb, 0, none⟩), .int .i64 0]) ∧ FairAt w' fb gb cap k n (fun _ => 0) ∧ w.heap.size ≤ fb ∧ w.heap.size ≤ gb ∧ Below w.heap.size w w' := by
  obtain ⟨i0, hi, hz0, hz1, hz2⟩ := info_parts Try.info3
  go_enter Try.func14, Try.ntmps14
  go_wp2_with (at_make; refine wpList_make_full _ rfl _ _ 37 rfl w.heap.size 3 i0 (.int .i64 0) 1 Try.underlying37 hi hz0 hz1 .i64 .i64 _ _ n rfl rfl rfl rfl (by rw [hz2]; omega) (by unfold maxLen; omega) (Nat.le_refl _) ?_; intro w0 hown0 hgrow0)
  rw [made_zero] at hown0
  go_ret2
  obtain ⟨g, cap, cur, hv, hg, hcur, hsz, hc⟩ := own_ints hown0 (by omega)
  have hB : Below w.heap.size w w0 := (Below.refl _ _).grown hgrow0 (Nat.le_refl _) (by simp)
  have hlt := (Array.getElem?_eq_some_iff.1 hcur).1
  simp only [Value.slice.injEq, Option.some.injEq, Addr.mk.injEq] at hv
  obtain ⟨⟨rfl, _⟩, _, rfl⟩ := hv
  refine ⟨w0.heap.size, w.heap.size, n, rfl, ⟨by omega, ⟨_, heap_alloc_new _ _⟩, cur, ?_, hsz, hc⟩, hB.size, Nat.le_refl _, hB.alloc hB.size _⟩
  rw [Below.heap_alloc _ _ _ hlt]; exact hcur

theorem Clone_ok (g n cap : Nat) (q : Nat → Int) (w : World) (h1 : 1 ≤ n) (h2 : n ≤ 100000) (hc : ∀ j, j < n → w.cell? ⟨g, j, none⟩ = some (.int .i64 (q j))) :
    Calls Try.prog 24 #[.slice (some ⟨g, 0, none⟩) n cap] w fun e w' => ∃ v, e = .returned v ∧ w'.ownsRow w.heap.size 3 1 v n (vals q n) ∧ Below w.heap.size w w' := by
  obtain ⟨i0, hi, hz0, hz1, hz2⟩ := info_parts Try.info3
  have hg : g < w.heap.size := World.block_lt_of_cell? w _ (hc 0 (by omega))
  have hnil := @Lib.run_eql_slice_nil Try.prog
  go_enter Try.func24, Try.ntmps24
  have hmade : (w.alloc (.cells #[] 3)).ownsRow w.heap.size 3 1 (.slice (some ⟨w.heap.size, 0, none⟩) 0 0) 0 [] := World.ownsRow_made w #[] 0 (Nat.le_refl _) (by unfold maxLen; omega) rfl
  have hcs : ∀ j u, (vals q n)[j]? = some u → (w.alloc (.cells #[] 3)).cell? ((⟨g, 0, none⟩ : Addr).add j) = some u := by
    intro j u hj
    have hjn : j < n := by have := (List.getElem?_eq_some_iff.1 hj).1; simpa using this
    rw [vals_get q n j hjn] at hj
    rw [show (⟨g, 0, none⟩ : Addr).add j = ⟨g, j, none⟩ by unfold Addr.add; split <;> simp_all, World.cell?_alloc_past _ _ _ hg, hc j hjn]
    exact hj
  go_wp2_with (at_builtin; refine wpList_append_own _ rfl _ _ 37 rfl w.heap.size 3 i0 (.int .i64 0) 1 8 Try.underlying37 hi hz0 hz1 hz2 rfl (by decide) _ _ _ rfl hmade ⟨g, 0, none⟩ n cap (vals q n) rfl (by simp) hcs (vals_one q n) (by unfold maxLen; omega) (by omega) (by simp) ?_; intro v1 w1 hown1 hgrow1 hnil1)
  go_ret
  simp only [Nat.zero_add, List.nil_append] at hown1
  exact ⟨_, rfl, hown1, ((Below.refl _ _).alloc (Nat.le_refl _) _).grown hgrow1 (by simp) (fun j hj => (hmade.lt j hj).1)⟩

/-- counts in new memory: what Passed and Copy answer -/
theorem Passed_ok (fb gb cap n : Nat) (k : Int) (q : Nat → Int) (w : World) (h1 : 1 ≤ n) (h2 : n ≤ 100000) (h : FairAt w fb gb cap k n q) :
    Calls Try.prog 18 #[.pointer (some ⟨fb, 0, none⟩)] w fun e w' => ∃ v, e = .returned v ∧ w'.ownsRow w.heap.size 3 1 v n (vals q n) ∧ Below w.heap.size w w' := by
  have hc1 := h.cells
  go_enter Try.func18, Try.ntmps18
  go_wp2_with fail
  refine (Clone_ok gb n cap q w h1 h2 (fun j hj => h.cell j hj)).mono ?_
  rintro e w' ⟨v, rfl, hown, hB⟩
  go_wp2
  go_ret
  exact ⟨_, rfl, hown, hB⟩
theorem Passed_nil (w : World) : Calls Try.prog 18 #[.pointer none] w fun e w' => e = .returned (.slice none 0 0) ∧ w = w' := by
  go_enter Try.func18, Try.ntmps18
  go_wp2
  go_ret
  exact ⟨rfl, rfl⟩
theorem Copy_nil (w : World) : Calls Try.prog 15 #[.pointer none] w fun e w' => e = .returned (.pointer none) ∧ w = w' := by
  go_enter Try.func15, Try.ntmps15
  go_wp2
  go_ret
  exact ⟨rfl, rfl⟩
theorem Copy_ok (fb gb cap n : Nat) (k : Int) (q : Nat → Int) (w : World) (h1 : 1 ≤ n) (h2 : n ≤ 100000) (h : FairAt w fb gb cap k n q) :
    Calls Try.prog 15 #[.pointer (some ⟨fb, 0, none⟩)] w fun e w' => ∃ fb' gb' cap', e = .returned (.pointer (some ⟨fb', 0, none⟩)) ∧ FairAt w' fb' gb' cap' k n q ∧ w.heap.size ≤ fb' ∧ w.heap.size ≤ gb' ∧ Below w.heap.size w w' := by
  have hc0 := h.cellk
  have hc1 := h.cells
  have hn0 : ((n : Int) == 0) = false := by simp; omega
  go_enter Try.func15, Try.ntmps15
  go_wp2_with fail
  go_region_with (go_at_call 24; refine (Clone_ok gb n cap q _ h1 h2 ?_).mono ?_; (intro j hj; exact h.cell j hj); rintro e w' ⟨v, rfl, hown, hB⟩; have hc0' := (hB.cell (World.block_lt_of_cell? _ _ hc0)).trans hc0; obtain ⟨g', cap', cur', rfl, hg1, hg2, hg3, hg4⟩ := own_ints hown h1; clear hown)
  all_goals (go_wp2; go_ret)
  all_goals exact ⟨w'.heap.size, g', cap', rfl, FairAt.made hg2 hg3 hg4, hB.size, hg1, (((Below.refl _ _).drew).trans hB).alloc hB.size _⟩
end Go.Proofs.Ytcdphilgnlcahaa
