/- Walks of index's last, Find, At. (Written by wip/genixfind.py.) -/
import Derived.Test.YthbknahmmegcdaaIxFind
import Derived.Handy
import Derived.Deep.RegionWith
namespace Go.Proofs.Ythbknahmmegcdaa
open Go.RowKit

/-- how many stand ahead of the first for which a test holds -/
def firstT (p : S2 → Bool) : List S2 → Nat
  | [] => 0
  | s :: l => if p s then 0 else firstT p l + 1
theorem firstT_eq (p : S2 → Bool) : ∀ (l : List S2) (r : Nat), r ≤ l.length → (∀ a, a < r → p (l.getD a default) = false) → (∀ a, r ≤ a → a < l.length → p (l.getD a default) = true) → r = firstT p l
  | [], r, h, _, _ => by simp at h; exact h
  | s :: l, r, h, h1, h2 => by
    unfold firstT
    cases r with
    | zero =>
      have := h2 0 (Nat.le_refl _) (by simp)
      simp only [List.getD_cons_zero] at this
      rw [if_pos this]
    | succ r =>
      have h0 := h1 0 (by omega)
      simp only [List.getD_cons_zero] at h0
      rw [if_neg (by rw [h0]; simp)]
      congr 1
      exact firstT_eq p l r (by simpa using h) (fun a ha => by simpa using h1 (a + 1) (by omega)) (fun a ha hb => by simpa using h2 (a + 1) (by omega) (by simpa using hb))
/-- the last one ahead of it -/
def lastR (p : S2 → Bool) (l : List S2) : S2 := if firstT p l = 0 then ⟨0, 0⟩ else l.getD (firstT p l - 1) default
def lastB (p : S2 → Bool) (l : List S2) : Bool := !decide (firstT p l = 0)

theorem last_nil (k : Nat) (cb : Value) (w : World) : Calls Try.prog 33 #[.pointer none, .func (.func k) #[] #[cb]] w fun e w' => e = .returned (.tuple #[.agg (spotV ⟨0, 0⟩), .bool false]) ∧ Below w.heap.size w w' := by
  have HB := hide ((((Below.refl w.heap.size w).alloc (Nat.le_refl _) (.cells #[.pointer none] 24)).alloc (by simp) (.cells #[.func (.func k) #[] #[cb]] 65)).alloc (by simp; omega) (.cells #[.int .i64 0, .int .i64 0] 31))
  unfold spotV
  go_enter Try.func33, Try.ntmps33
  go_wp2_with (go_at_call 26; with_reducible refine (none_nil _).mono ?_; rintro e w' ⟨rfl, rfl⟩)
  go_returns
  exact ⟨rfl, HB.out⟩

/-- what a test of last leans on: the test's box, the index's box, the captured number, the index -/
structure LSt (w wc : World) (kf : Nat) (fx fy bo : Nat) (x : Int) (base g : Nat) (st : Int) (l : List S2) (v : Value) : Prop where
  bel : Below w.heap.size w wc
  cx : wc.cell? ⟨fx, 0, none⟩ = some (.func (.func kf) #[] #[.pointer (some ⟨bo, 0, none⟩)])
  cy : wc.cell? ⟨fy, 0, none⟩ = some (.pointer (some ⟨g, 0, none⟩))
  co : wc.cell? ⟨bo, 0, none⟩ = some (.int .i64 x)
  ix : IxAt wc base g st l v
theorem LSt.call {w wc w2 : World} {kf fx fy bo : Nat} {x : Int} {base g : Nat} {st : Int} {l : List S2} {v : Value} (h : LSt w wc kf fx fy bo x base g st l v) (hB : Below wc.heap.size wc w2) : LSt w w2 kf fx fy bo x base g st l v :=
  ⟨h.bel.trans (hB.mono h.bel.size), (hB.cell (World.block_lt_of_cell? wc _ h.cx)).trans h.cx, (hB.cell (World.block_lt_of_cell? wc _ h.cy)).trans h.cy, (hB.cell (World.block_lt_of_cell? wc _ h.co)).trans h.co, h.ix.call hB⟩
theorem set_two {w : World} {g : Nat} {a b : Value} {T : TypeId} (h : w.heap[g]? = some (.cells #[a, b] T (0, 0))) (x y : Value) :
    (w.setCell ⟨g, 0, none⟩ x).cell? ⟨g, 0, none⟩ = some x ∧ ((w.setCell ⟨g, 0, none⟩ x).setCell ⟨g, 1, none⟩ y).cell? ⟨g, 0, none⟩ = some x ∧ ((w.setCell ⟨g, 0, none⟩ x).setCell ⟨g, 1, none⟩ y).cell? ⟨g, 1, none⟩ = some y := by
  have h1 : (w.setCell ⟨g, 0, none⟩ x).heap[g]? = some (.cells #[x, b] T (0, 0)) := by
    rw [setCell_eq_setRow w g 0 _ _ _ _ h]
    exact setRow_heap w g _ _ _ _ h
  have h2 : ((w.setCell ⟨g, 0, none⟩ x).setCell ⟨g, 1, none⟩ y).heap[g]? = some (.cells #[x, y] T (0, 0)) := by
    rw [setCell_eq_setRow _ g 1 _ _ _ _ h1]
    exact setRow_heap _ g _ _ _ _ h1
  refine ⟨?_, ?_, ?_⟩
  · rw [cell_of_row _ _ _ _ _ _ h1]; rfl
  · rw [cell_of_row _ _ _ _ _ _ h2]; rfl
  · rw [cell_of_row _ _ _ _ _ _ h2]; rfl
theorem LSt.drew {w wc : World} {kf fx fy bo : Nat} {x : Int} {base g : Nat} {st : Int} {l : List S2} {v : Value} (h : LSt w wc kf fx fy bo x base g st l v) : LSt w wc.drew kf fx fy bo x base g st l v := h.call (Below.refl _ _).drew

theorem find1_ok (s : S2) (bo : Nat) (x : Int) (w : World) (h : w.cell? ⟨bo, 0, none⟩ = some (.int .i64 x)) :
    Calls Try.prog 34 #[.agg (spotV s), .pointer (some ⟨bo, 0, none⟩)] w fun e w' => e = .returned (.bool (decide (x < s.o))) ∧ Below w.heap.size w w' := by
  have HB := hide ((Below.refl w.heap.size w).alloc (Nat.le_refl _) (.cells (spotV s) 31))
  have h2 : (w.alloc (.cells (spotV s) 31)).cell? ⟨bo, 0, none⟩ = some (.int .i64 x) := (HB.out.cell (p := ⟨bo, 0, none⟩) (World.block_lt_of_cell? w _ h)).trans h
  obtain ⟨so, sp⟩ := s
  unfold spotV at *
  clear h
  go_enter Try.func34, Try.ntmps34
  go_wp2
  go_ret
  exact ⟨rfl, HB.out⟩

set_option maxHeartbeats 1600000 in
theorem last1_find (kf fx fy bo : Nat) (hkf : kf = 34) (x : Int) {base g : Nat} {st : Int} {l : List S2} {v : Value} (i : Nat) (hi : i < l.length) (w : World) (h : LSt w w kf fx fy bo x base g st l v) :
    Calls Try.prog 43 #[.int .i64 (i : Nat), .pointer (some ⟨fx, 0, none⟩), .pointer (some ⟨fy, 0, none⟩)] w fun e w' => e = .returned (.bool ((fun s => decide (x < s.o)) (l.getD i default))) ∧ Below w.heap.size w w' := by
  subst hkf
  obtain ⟨rb, cap, rfl, _, _, _, hs⟩ := h.ix.own.row (by omega)
  obtain ⟨b2, o2, e, m0, m1⟩ := hs i hi
  injection e with e
  injection e with e1 e2
  subst e1 e2
  rw [Nat.zero_add] at m0 m1
  have c1 := h.ix.box.cell1
  have cx := h.cx
  have cy := h.cy
  have HC := hide (fun (w' : World) (hB : Below w.heap.size w w') => find1_ok (l.getD i default) bo x w' ((hB.cell (p := ⟨bo, 0, none⟩) (World.block_lt_of_cell? w _ h.co)).trans h.co))
  generalize l.getD i default = s at *
  obtain ⟨so, sp⟩ := s
  unfold spotV at HC
  dsimp only at m0 m1 HC ⊢
  have hi1 : (i : Int) < (l.length : Int) := by omega
  have HBD := hide ((Below.refl w.heap.size w).drew)
  clear h hs
  generalize l.length = n at *
  go_enter Try.func43, Try.ntmps43
  go_wp2_with fail
  go_region_with (go_at_call 34; refine (HC.out _ HBD.out).mono ?_; rintro e w1 ⟨rfl, hB⟩; have HB1 := hide (HBD.out.trans (hB.mono HBD.out.size)); clear hB)
  all_goals (go_wp2_with fail; go_ret; exact ⟨rfl, HB1.out⟩)

set_option maxHeartbeats 1600000 in
theorem last_find (bo : Nat) (x : Int) {w : World} {base g : Nat} {st : Int} {l : List S2} {v : Value} (h : IxAt w base g st l v) (hst : st ≠ 0) (hn : l.length ≤ 4611686018427387904) (hco : w.cell? ⟨bo, 0, none⟩ = some (.int .i64 x))
    (hmono : ∀ a b, a ≤ b → b < l.length → (l.getD a default).o ≤ (l.getD b default).o) :
    Calls Try.prog 33 #[.pointer (some ⟨g, 0, none⟩), .func (.func 34) #[] #[.pointer (some ⟨bo, 0, none⟩)]] w fun e w' => e = .returned (.tuple #[.agg (spotV (lastR (fun s => decide (x < s.o)) l)), .bool (lastB (fun s => decide (x < s.o)) l)]) ∧ Below w.heap.size w w' := by
  have HM := hide (fun a b (h1 : a ≤ b) (h2 : b < l.length) (hp : (fun s => decide (x < s.o)) (l.getD a default) = true) => (show (fun s => decide (x < s.o)) (l.getD b default) = true by
    have := hmono a b h1 h2
    simp only [decide_eq_true_eq] at hp ⊢
    omega))
  have HN := hide (fun (w' : World) (h : IxAt w' base g st l v) => none_ok h.box)
  have q0 : (st == 0) = false := beq_eq_false_iff_ne.2 hst
  rw [q0] at HN
  -- the world behind the three boxes
  obtain ⟨w0, hw0⟩ : ∃ w0, w0 = ((w.alloc (.cells #[.pointer (some ⟨g, 0, none⟩)] 24)).alloc (.cells #[.func (.func 34) #[] #[.pointer (some ⟨bo, 0, none⟩)]] 65)).alloc (.cells #[.int .i64 0, .int .i64 0] 31) := ⟨_, rfl⟩
  have hb1 := (Below.refl w.heap.size w).alloc (Nat.le_refl _) (.cells #[.pointer (some ⟨g, 0, none⟩)] 24)
  have hb2 := hb1.alloc (by simp) (.cells #[.func (.func 34) #[] #[.pointer (some ⟨bo, 0, none⟩)]] 65)
  have hb3 := hb2.alloc (by simp; omega) (.cells #[.int .i64 0, .int .i64 0] 31)
  rw [← hw0] at hb3
  have k1 : (w.alloc (.cells #[.pointer (some ⟨g, 0, none⟩)] 24)).heap.size = w.heap.size + 1 := by simp
  have k2 : ((w.alloc (.cells #[.pointer (some ⟨g, 0, none⟩)] 24)).alloc (.cells #[.func (.func 34) #[] #[.pointer (some ⟨bo, 0, none⟩)]] 65)).heap.size = w.heap.size + 2 := by simp
  have hbY : w0.heap[w.heap.size]? = some (.cells #[.pointer (some ⟨g, 0, none⟩)] 24 (0, 0)) := by
    rw [hw0]
    exact ((((Below.refl _ _).alloc (Nat.le_refl _) _).alloc (by simp) _).block w.heap.size (by simp)).trans (heap_alloc_new w _)
  have hbX : w0.heap[w.heap.size + 1]? = some (.cells #[.func (.func 34) #[] #[.pointer (some ⟨bo, 0, none⟩)]] 65 (0, 0)) := by
    rw [hw0]
    refine (((Below.refl _ _).alloc (Nat.le_refl _) _).block (w.heap.size + 1) (by simp)).trans ?_
    rw [← k1]
    exact heap_alloc_new _ _
  have hbR : w0.heap[w.heap.size + 2]? = some (.cells #[.int .i64 0, .int .i64 0] 31 (0, 0)) := by
    rw [hw0, ← k2]
    exact heap_alloc_new _ _
  have HL : Hid (LSt w w0 34 (w.heap.size + 1) w.heap.size bo x base g st l v) := hide ⟨hb3, by rw [cell_of_row _ _ _ _ _ _ hbX]; rfl, by rw [cell_of_row _ _ _ _ _ _ hbY]; rfl, (hb3.cell (p := ⟨bo, 0, none⟩) (World.block_lt_of_cell? w _ hco)).trans hco, h.call hb3⟩
  have HS := hide (fun (w' : World) (hL : LSt w w' 34 (w.heap.size + 1) w.heap.size bo x base g st l v) => Search_ok (.pointer (some ⟨w.heap.size + 1, 0, none⟩)) (.pointer (some ⟨w.heap.size, 0, none⟩)) l.length (fun i => (fun s => decide (x < s.o)) (l.getD i default)) w' hn
    (fun i w'' hi hB => last1_find 34 (w.heap.size + 1) w.heap.size bo rfl x i hi w'' ⟨Below.refl _ _, (hL.call hB).cx, (hL.call hB).cy, (hL.call hB).co, (hL.call hB).ix⟩) (fun a b h1 h2 h3 => HM.out a b h1 h2 h3))
  have HR := hide (fun (w' : World) (hB : Below w0.heap.size w0 w') => (hB.block (w.heap.size + 2) (Array.getElem?_eq_some_iff.1 hbR).1).trans hbR)
  have HFT := hide (fun r h1 h2 h3 => firstT_eq (fun s => decide (x < s.o)) l r h1 h2 h3)
  obtain ⟨rS, hrS⟩ : ∃ y, y = lastR (fun s => decide (x < s.o)) l := ⟨_, rfl⟩
  obtain ⟨rB, hrB⟩ : ∃ y, y = lastB (fun s => decide (x < s.o)) l := ⟨_, rfl⟩
  rw [← hrS, ← hrB]
  unfold lastR at hrS
  unfold lastB at hrB
  have HRS := hide hrS
  have HRB := hide hrB
  have hrow := fun hn => h.own.row hn
  obtain ⟨ao, cap, rfl, hcap, _, _, _⟩ := h.own.any
  have HOW : Hid (∀ (w' : World) (i : Nat), i < l.length → IxAt w' base g st l (.slice ao l.length cap) → ∃ rb, ao = some ⟨rb, 0, none⟩ ∧ w'.cell? ⟨rb, i * 2, none⟩ = some (.int .i64 (l.getD i default).o) ∧ w'.cell? ⟨rb, i * 2 + 1, none⟩ = some (.int .i64 (l.getD i default).p)) := hide (fun w' i h0 h => by
    obtain ⟨rb, c', e, _, _, _, h2⟩ := h.own.row (by omega)
    injection e with e
    obtain ⟨b, o2, e2, h3, h4⟩ := h2 i h0
    injection e2 with e2
    injection e2 with e3 e4
    subst e3 e4
    rw [Nat.zero_add] at h3 h4
    exact ⟨_, e, h3, h4⟩)
  clear hrS hrB hrow hb1 hb2 hb3 hbX hbY hbR h hmono hco q0 HM k1 k2
  generalize l.length = n at *
  obtain ⟨so, sp⟩ := rS
  unfold spotV
  go_enter Try.func33, Try.ntmps33
  go_upto_region 1 with fail
  rw [← hw0]
  clear hw0
  have cy := HL.out.cy
  have c1 := HL.out.ix.box.cell1
  go_wp2_with (go_at_call 26; refine (HN.out _ HL.out.ix).mono ?_; rintro e w' ⟨rfl, rfl⟩)
  refine (HS.out _ HL.out).mono ?_
  rintro e w1 ⟨r, rfl, hr, h1, h2, hB⟩
  have HL1 := hide (HL.out.call hB)
  have HFR := hide (HFT.out r hr h1 h2)
  have HRR : Hid (w1.heap[w.heap.size + 1 + 1]? = some (.cells #[.int .i64 0, .int .i64 0] 31 (0, 0))) := hide (HR.out w1 hB)
  have HB1 := hide (HL1.out.bel)
  clear h1 h2 hB cy c1 HL HS HR HFT
  have r0 : w1.cell? ⟨w.heap.size + 1 + 1, 0, none⟩ = some (.int .i64 0) := by rw [cell_of_row _ _ _ _ _ _ HRR.out]; rfl
  have r1 : w1.cell? ⟨w.heap.size + 1 + 1, 1, none⟩ = some (.int .i64 0) := by rw [cell_of_row _ _ _ _ _ _ HRR.out]; rfl
  have f0 : w1.frozen? ⟨w.heap.size + 1 + 1, 0, none⟩ = false := frozen_of_row _ _ _ _ _ HRR.out
  have f1 : w1.frozen? ⟨w.heap.size + 1 + 1, 1, none⟩ = false := frozen_of_row _ _ _ _ _ HRR.out
  have cy := HL1.out.cy
  have c1 := HL1.out.ix.box.cell1
  by_cases hz : r = 0
  · subst hz
    have HE : Hid (rB = false ∧ (⟨so, sp⟩ : S2) = ⟨0, 0⟩) := hide ⟨by rw [HRB.out, ← HFR.out]; rfl, by rw [HRS.out, if_pos HFR.out.symm]⟩
    obtain ⟨rfl, e⟩ := HE.out
    injection e with e1 e2
    subst e1 e2
    have HBE := hide ((HB1.out.setCell (p := ⟨w.heap.size + 1 + 1, 0, none⟩) (by show w.heap.size ≤ w.heap.size + 1 + 1; omega) (.int .i64 0)).setCell (p := ⟨w.heap.size + 1 + 1, 1, none⟩) (by show w.heap.size ≤ w.heap.size + 1 + 1; omega) (.int .i64 0))
    clear HE
    obtain ⟨_, g2, g3⟩ := set_two HRR.out (.int .i64 0) (.int .i64 0)
    go_wp2_with fail
    (try simp only [Exit.inBlock, Exit.then])
    refine bodyPost_ret (by simp [results, Try.results33, go_sem, g2, g3]; try rfl) rfl ?_
    exact ⟨rfl, HBE.out⟩
  · have q1 : ((r : Int) == 0) = false := beq_eq_false_iff_ne.2 (by omega)
    have HE : Hid (rB = true ∧ (⟨so, sp⟩ : S2) = l.getD (r - 1) default) := hide ⟨by rw [HRB.out, ← HFR.out]; simp [hz], by rw [HRS.out, ← HFR.out, if_neg hz]⟩
    obtain ⟨rfl, e⟩ := HE.out
    obtain ⟨rb, rfl, m0, m1⟩ := HOW.out w1 (r - 1) (by omega) HL1.out.ix
    rw [← e] at m0 m1
    dsimp only at m0 m1
    have hw1 : IntKind.i64.wrap ((r : Int) - 1) = ((r - 1 : Nat) : Int) := by rw [IntKind.wrap_i64]; omega
    have hi1 : ((r - 1 : Nat) : Int) < (n : Int) := by omega
    have hi2 : r - 1 < n := by omega
    have HBE := hide ((HB1.out.setCell (p := ⟨w.heap.size + 1 + 1, 0, none⟩) (by show w.heap.size ≤ w.heap.size + 1 + 1; omega) (.int .i64 so)).setCell (p := ⟨w.heap.size + 1 + 1, 1, none⟩) (by show w.heap.size ≤ w.heap.size + 1 + 1; omega) (.int .i64 sp))
    clear HE e hz
    obtain ⟨_, g2, g3⟩ := set_two HRR.out (.int .i64 so) (.int .i64 sp)
    go_wp2_with fail
    (try simp only [Exit.inBlock, Exit.then])
    refine bodyPost_ret (by simp [results, Try.results33, go_sem, g2, g3]; try rfl) rfl ?_
    exact ⟨rfl, HBE.out⟩

theorem at1_ok (s : S2) (bo : Nat) (x : Int) (w : World) (h : w.cell? ⟨bo, 0, none⟩ = some (.int .i64 x)) :
    Calls Try.prog 37 #[.agg (spotV s), .pointer (some ⟨bo, 0, none⟩)] w fun e w' => e = .returned (.bool (decide (x < s.p))) ∧ Below w.heap.size w w' := by
  have HB := hide ((Below.refl w.heap.size w).alloc (Nat.le_refl _) (.cells (spotV s) 31))
  have h2 : (w.alloc (.cells (spotV s) 31)).cell? ⟨bo, 0, none⟩ = some (.int .i64 x) := (HB.out.cell (p := ⟨bo, 0, none⟩) (World.block_lt_of_cell? w _ h)).trans h
  obtain ⟨so, sp⟩ := s
  unfold spotV at *
  clear h
  go_enter Try.func37, Try.ntmps37
  go_wp2
  go_ret
  exact ⟨rfl, HB.out⟩

set_option maxHeartbeats 1600000 in
theorem last1_at (kf fx fy bo : Nat) (hkf : kf = 37) (x : Int) {base g : Nat} {st : Int} {l : List S2} {v : Value} (i : Nat) (hi : i < l.length) (w : World) (h : LSt w w kf fx fy bo x base g st l v) :
    Calls Try.prog 43 #[.int .i64 (i : Nat), .pointer (some ⟨fx, 0, none⟩), .pointer (some ⟨fy, 0, none⟩)] w fun e w' => e = .returned (.bool ((fun s => decide (x < s.p)) (l.getD i default))) ∧ Below w.heap.size w w' := by
  subst hkf
  obtain ⟨rb, cap, rfl, _, _, _, hs⟩ := h.ix.own.row (by omega)
  obtain ⟨b2, o2, e, m0, m1⟩ := hs i hi
  injection e with e
  injection e with e1 e2
  subst e1 e2
  rw [Nat.zero_add] at m0 m1
  have c1 := h.ix.box.cell1
  have cx := h.cx
  have cy := h.cy
  have HC := hide (fun (w' : World) (hB : Below w.heap.size w w') => at1_ok (l.getD i default) bo x w' ((hB.cell (p := ⟨bo, 0, none⟩) (World.block_lt_of_cell? w _ h.co)).trans h.co))
  generalize l.getD i default = s at *
  obtain ⟨so, sp⟩ := s
  unfold spotV at HC
  dsimp only at m0 m1 HC ⊢
  have hi1 : (i : Int) < (l.length : Int) := by omega
  have HBD := hide ((Below.refl w.heap.size w).drew)
  clear h hs
  generalize l.length = n at *
  go_enter Try.func43, Try.ntmps43
  go_wp2_with fail
  go_region_with (go_at_call 37; refine (HC.out _ HBD.out).mono ?_; rintro e w1 ⟨rfl, hB⟩; have HB1 := hide (HBD.out.trans (hB.mono HBD.out.size)); clear hB)
  all_goals (go_wp2_with fail; go_ret; exact ⟨rfl, HB1.out⟩)

set_option maxHeartbeats 1600000 in
theorem last_at (bo : Nat) (x : Int) {w : World} {base g : Nat} {st : Int} {l : List S2} {v : Value} (h : IxAt w base g st l v) (hst : st ≠ 0) (hn : l.length ≤ 4611686018427387904) (hco : w.cell? ⟨bo, 0, none⟩ = some (.int .i64 x))
    (hmono : ∀ a b, a ≤ b → b < l.length → (l.getD a default).p ≤ (l.getD b default).p) :
    Calls Try.prog 33 #[.pointer (some ⟨g, 0, none⟩), .func (.func 37) #[] #[.pointer (some ⟨bo, 0, none⟩)]] w fun e w' => e = .returned (.tuple #[.agg (spotV (lastR (fun s => decide (x < s.p)) l)), .bool (lastB (fun s => decide (x < s.p)) l)]) ∧ Below w.heap.size w w' := by
  have HM := hide (fun a b (h1 : a ≤ b) (h2 : b < l.length) (hp : (fun s => decide (x < s.p)) (l.getD a default) = true) => (show (fun s => decide (x < s.p)) (l.getD b default) = true by
    have := hmono a b h1 h2
    simp only [decide_eq_true_eq] at hp ⊢
    omega))
  have HN := hide (fun (w' : World) (h : IxAt w' base g st l v) => none_ok h.box)
  have q0 : (st == 0) = false := beq_eq_false_iff_ne.2 hst
  rw [q0] at HN
  -- the world behind the three boxes
  obtain ⟨w0, hw0⟩ : ∃ w0, w0 = ((w.alloc (.cells #[.pointer (some ⟨g, 0, none⟩)] 24)).alloc (.cells #[.func (.func 37) #[] #[.pointer (some ⟨bo, 0, none⟩)]] 65)).alloc (.cells #[.int .i64 0, .int .i64 0] 31) := ⟨_, rfl⟩
  have hb1 := (Below.refl w.heap.size w).alloc (Nat.le_refl _) (.cells #[.pointer (some ⟨g, 0, none⟩)] 24)
  have hb2 := hb1.alloc (by simp) (.cells #[.func (.func 37) #[] #[.pointer (some ⟨bo, 0, none⟩)]] 65)
  have hb3 := hb2.alloc (by simp; omega) (.cells #[.int .i64 0, .int .i64 0] 31)
  rw [← hw0] at hb3
  have k1 : (w.alloc (.cells #[.pointer (some ⟨g, 0, none⟩)] 24)).heap.size = w.heap.size + 1 := by simp
  have k2 : ((w.alloc (.cells #[.pointer (some ⟨g, 0, none⟩)] 24)).alloc (.cells #[.func (.func 37) #[] #[.pointer (some ⟨bo, 0, none⟩)]] 65)).heap.size = w.heap.size + 2 := by simp
  have hbY : w0.heap[w.heap.size]? = some (.cells #[.pointer (some ⟨g, 0, none⟩)] 24 (0, 0)) := by
    rw [hw0]
    exact ((((Below.refl _ _).alloc (Nat.le_refl _) _).alloc (by simp) _).block w.heap.size (by simp)).trans (heap_alloc_new w _)
  have hbX : w0.heap[w.heap.size + 1]? = some (.cells #[.func (.func 37) #[] #[.pointer (some ⟨bo, 0, none⟩)]] 65 (0, 0)) := by
    rw [hw0]
    refine (((Below.refl _ _).alloc (Nat.le_refl _) _).block (w.heap.size + 1) (by simp)).trans ?_
    rw [← k1]
    exact heap_alloc_new _ _
  have hbR : w0.heap[w.heap.size + 2]? = some (.cells #[.int .i64 0, .int .i64 0] 31 (0, 0)) := by
    rw [hw0, ← k2]
    exact heap_alloc_new _ _
  have HL : Hid (LSt w w0 37 (w.heap.size + 1) w.heap.size bo x base g st l v) := hide ⟨hb3, by rw [cell_of_row _ _ _ _ _ _ hbX]; rfl, by rw [cell_of_row _ _ _ _ _ _ hbY]; rfl, (hb3.cell (p := ⟨bo, 0, none⟩) (World.block_lt_of_cell? w _ hco)).trans hco, h.call hb3⟩
  have HS := hide (fun (w' : World) (hL : LSt w w' 37 (w.heap.size + 1) w.heap.size bo x base g st l v) => Search_ok (.pointer (some ⟨w.heap.size + 1, 0, none⟩)) (.pointer (some ⟨w.heap.size, 0, none⟩)) l.length (fun i => (fun s => decide (x < s.p)) (l.getD i default)) w' hn
    (fun i w'' hi hB => last1_at 37 (w.heap.size + 1) w.heap.size bo rfl x i hi w'' ⟨Below.refl _ _, (hL.call hB).cx, (hL.call hB).cy, (hL.call hB).co, (hL.call hB).ix⟩) (fun a b h1 h2 h3 => HM.out a b h1 h2 h3))
  have HR := hide (fun (w' : World) (hB : Below w0.heap.size w0 w') => (hB.block (w.heap.size + 2) (Array.getElem?_eq_some_iff.1 hbR).1).trans hbR)
  have HFT := hide (fun r h1 h2 h3 => firstT_eq (fun s => decide (x < s.p)) l r h1 h2 h3)
  obtain ⟨rS, hrS⟩ : ∃ y, y = lastR (fun s => decide (x < s.p)) l := ⟨_, rfl⟩
  obtain ⟨rB, hrB⟩ : ∃ y, y = lastB (fun s => decide (x < s.p)) l := ⟨_, rfl⟩
  rw [← hrS, ← hrB]
  unfold lastR at hrS
  unfold lastB at hrB
  have HRS := hide hrS
  have HRB := hide hrB
  have hrow := fun hn => h.own.row hn
  obtain ⟨ao, cap, rfl, hcap, _, _, _⟩ := h.own.any
  have HOW : Hid (∀ (w' : World) (i : Nat), i < l.length → IxAt w' base g st l (.slice ao l.length cap) → ∃ rb, ao = some ⟨rb, 0, none⟩ ∧ w'.cell? ⟨rb, i * 2, none⟩ = some (.int .i64 (l.getD i default).o) ∧ w'.cell? ⟨rb, i * 2 + 1, none⟩ = some (.int .i64 (l.getD i default).p)) := hide (fun w' i h0 h => by
    obtain ⟨rb, c', e, _, _, _, h2⟩ := h.own.row (by omega)
    injection e with e
    obtain ⟨b, o2, e2, h3, h4⟩ := h2 i h0
    injection e2 with e2
    injection e2 with e3 e4
    subst e3 e4
    rw [Nat.zero_add] at h3 h4
    exact ⟨_, e, h3, h4⟩)
  clear hrS hrB hrow hb1 hb2 hb3 hbX hbY hbR h hmono hco q0 HM k1 k2
  generalize l.length = n at *
  obtain ⟨so, sp⟩ := rS
  unfold spotV
  go_enter Try.func33, Try.ntmps33
  go_upto_region 1 with fail
  rw [← hw0]
  clear hw0
  have cy := HL.out.cy
  have c1 := HL.out.ix.box.cell1
  go_wp2_with (go_at_call 26; refine (HN.out _ HL.out.ix).mono ?_; rintro e w' ⟨rfl, rfl⟩)
  refine (HS.out _ HL.out).mono ?_
  rintro e w1 ⟨r, rfl, hr, h1, h2, hB⟩
  have HL1 := hide (HL.out.call hB)
  have HFR := hide (HFT.out r hr h1 h2)
  have HRR : Hid (w1.heap[w.heap.size + 1 + 1]? = some (.cells #[.int .i64 0, .int .i64 0] 31 (0, 0))) := hide (HR.out w1 hB)
  have HB1 := hide (HL1.out.bel)
  clear h1 h2 hB cy c1 HL HS HR HFT
  have r0 : w1.cell? ⟨w.heap.size + 1 + 1, 0, none⟩ = some (.int .i64 0) := by rw [cell_of_row _ _ _ _ _ _ HRR.out]; rfl
  have r1 : w1.cell? ⟨w.heap.size + 1 + 1, 1, none⟩ = some (.int .i64 0) := by rw [cell_of_row _ _ _ _ _ _ HRR.out]; rfl
  have f0 : w1.frozen? ⟨w.heap.size + 1 + 1, 0, none⟩ = false := frozen_of_row _ _ _ _ _ HRR.out
  have f1 : w1.frozen? ⟨w.heap.size + 1 + 1, 1, none⟩ = false := frozen_of_row _ _ _ _ _ HRR.out
  have cy := HL1.out.cy
  have c1 := HL1.out.ix.box.cell1
  by_cases hz : r = 0
  · subst hz
    have HE : Hid (rB = false ∧ (⟨so, sp⟩ : S2) = ⟨0, 0⟩) := hide ⟨by rw [HRB.out, ← HFR.out]; rfl, by rw [HRS.out, if_pos HFR.out.symm]⟩
    obtain ⟨rfl, e⟩ := HE.out
    injection e with e1 e2
    subst e1 e2
    have HBE := hide ((HB1.out.setCell (p := ⟨w.heap.size + 1 + 1, 0, none⟩) (by show w.heap.size ≤ w.heap.size + 1 + 1; omega) (.int .i64 0)).setCell (p := ⟨w.heap.size + 1 + 1, 1, none⟩) (by show w.heap.size ≤ w.heap.size + 1 + 1; omega) (.int .i64 0))
    clear HE
    obtain ⟨_, g2, g3⟩ := set_two HRR.out (.int .i64 0) (.int .i64 0)
    go_wp2_with fail
    (try simp only [Exit.inBlock, Exit.then])
    refine bodyPost_ret (by simp [results, Try.results33, go_sem, g2, g3]; try rfl) rfl ?_
    exact ⟨rfl, HBE.out⟩
  · have q1 : ((r : Int) == 0) = false := beq_eq_false_iff_ne.2 (by omega)
    have HE : Hid (rB = true ∧ (⟨so, sp⟩ : S2) = l.getD (r - 1) default) := hide ⟨by rw [HRB.out, ← HFR.out]; simp [hz], by rw [HRS.out, ← HFR.out, if_neg hz]⟩
    obtain ⟨rfl, e⟩ := HE.out
    obtain ⟨rb, rfl, m0, m1⟩ := HOW.out w1 (r - 1) (by omega) HL1.out.ix
    rw [← e] at m0 m1
    dsimp only at m0 m1
    have hw1 : IntKind.i64.wrap ((r : Int) - 1) = ((r - 1 : Nat) : Int) := by rw [IntKind.wrap_i64]; omega
    have hi1 : ((r - 1 : Nat) : Int) < (n : Int) := by omega
    have hi2 : r - 1 < n := by omega
    have HBE := hide ((HB1.out.setCell (p := ⟨w.heap.size + 1 + 1, 0, none⟩) (by show w.heap.size ≤ w.heap.size + 1 + 1; omega) (.int .i64 so)).setCell (p := ⟨w.heap.size + 1 + 1, 1, none⟩) (by show w.heap.size ≤ w.heap.size + 1 + 1; omega) (.int .i64 sp))
    clear HE e hz
    obtain ⟨_, g2, g3⟩ := set_two HRR.out (.int .i64 so) (.int .i64 sp)
    go_wp2_with fail
    (try simp only [Exit.inBlock, Exit.then])
    refine bodyPost_ret (by simp [results, Try.results33, go_sem, g2, g3]; try rfl) rfl ?_
    exact ⟨rfl, HBE.out⟩
end Go.Proofs.Ythbknahmmegcdaa
