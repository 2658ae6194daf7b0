/- Walks of index's Cut, All, Copy; slices.Values. -/
import Derived.Test.YthbknahmmegcdaaIxCut2
import Derived.Test.YthbknahmmegcdaaIxIter
namespace Go.Proofs.Ythbknahmmegcdaa
open Go.RowKit
set_option linter.unusedVariables false

set_option maxHeartbeats 1600000 in
theorem Cut_ok (x : Int) {w : World} {base g : Nat} {st : Int} {l : List S2} {v : Value} (h : IxAt w base g st l v) (hst : st ≠ 0) (hn : l.length ≤ 1000000) (hbase : base ≤ w.heap.size)
    (hmono : ∀ a, cutN x l ≤ a → a < l.length → decide (x ≤ (l.getD a default).p) = true) :
    Calls Try.prog 12 #[.pointer (some ⟨g, 0, none⟩), .int .i64 x] w fun e w' =>
      ∃ v', e = .returned (.int .i64 ((l.length : Int) - (cutN x l : Nat))) ∧ IxAt w' base g st (l.take (cutN x l)) v' ∧ KeptX w w' g v.ownBlock ∧ v'.ownBlock = v.ownBlock := by
  have hle : cutN x l ≤ l.length := firstT_le _ l
  have hb1 := (Below.refl w.heap.size w).alloc (Nat.le_refl _) (.cells #[.int .i64 x] 3)
  obtain ⟨w0, hw0⟩ : ∃ w0, w0 = w.alloc (.cells #[.int .i64 x] 3) := ⟨_, rfl⟩
  rw [← hw0] at hb1
  have hbX : w0.heap[w.heap.size]? = some (.cells #[.int .i64 x] 3 (0, 0)) := by rw [hw0]; exact heap_alloc_new w _
  have hco : w0.cell? ⟨w.heap.size, 0, none⟩ = some (.int .i64 x) := by rw [cell_of_row _ _ _ _ _ _ hbX]; rfl
  have h0 := h.call hb1
  have HN := hide (none_ok h0.box)
  have q0 : (st == 0) = false := beq_eq_false_iff_ne.2 hst
  rw [q0] at HN
  have HD := hide (DeleteFunc_ok w.heap.size x h0.own hn hmono hco)
  have HFIN : Hid (∀ (w1 : World) (v1 : Value), OwnSpots w1 base v1 (l.take (cutN x l)) → w0.grownBy w1 v.ownBlock → v1.ownBlock = v.ownBlock → BoxI w1 g st v ∧ ∃ v', IxAt (w1.setCell ⟨g, 1, none⟩ v1) base g st (l.take (cutN x l)) v' ∧ KeptX w (w1.setCell ⟨g, 1, none⟩ v1) g v.ownBlock ∧ v'.ownBlock = v.ownBlock) := hide (fun w1 v1 h1 h2 h3 => by
    have hne : v.ownBlock ≠ some g := h.box.not_row h.own
    have hb3 : BoxI w1 g st v := (h2.block g h0.box.lt (fun e => hne e.symm)).trans h0.box
    refine ⟨hb3, v1, ⟨hb3.set1 _, ?_⟩, ((KeptX.of_below hb1 g _).trans (KeptX.of_grown h2 g)).trans (KeptX.of_set _ _ _ _ _), h3⟩
    exact World.ownsRow.kept h1 (row := some g) ⟨rfl, rfl, rfl, by simp [World.setCell], fun k _ hk => Below.heap_setCell _ _ _ k (fun e => hk (by rw [e]))⟩ (.inr (by rw [h3]; exact hne)))
  have HSH : Hid (∀ (w1 : World) (v1 : Value), OwnSpots w1 base v1 (l.take (cutN x l)) → ∃ a1 c1, v1 = .slice a1 (cutN x l) c1) := hide (fun w1 v1 h1 => by
    obtain ⟨ao, cap, rfl, _⟩ := h1.any
    rw [List.length_take, Nat.min_eq_left hle]
    exact ⟨_, _, rfl⟩)
  obtain ⟨ao, cap, rfl, _, _, _, _⟩ := h.own.any
  have c1 := h0.box.cell1
  clear h h0 hb1 hbX hco hmono q0 hst
  generalize hi0 : cutN x l = i at *
  generalize hnn : l.length = n at *
  have hin : i ≤ n := hle
  have hw1 : IntKind.i64.wrap ((n : Int) - (i : Int)) = (n : Int) - (i : Int) := by rw [IntKind.wrap_i64]; omega
  go_enter Try.func12, Try.ntmps12
  go_upto_region 1 with fail
  rw [← hw0]
  clear hw0
  go_wp2_with (go_at_call 26; refine HN.out.mono ?_; rintro e w' ⟨rfl, rfl⟩)
  refine HD.out.mono ?_
  rintro e w1 ⟨v1, rfl, h1, h2, h3⟩
  obtain ⟨k1, k2⟩ := HFIN.out w1 v1 h1 h2 h3
  obtain ⟨a1, c2, rfl⟩ := HSH.out w1 v1 h1
  have HK2 := hide k2
  have HB1 := hide (k1.set1 (.slice a1 i c2)).cell1
  have b1 := k1.cell1
  have f1 := k1.free 1
  have b2 := HB1.out
  clear h1 h2 h3 k1 k2 c1 HD HFIN HSH HN
  go_upto_region 5 with fail
  generalize w1.setCell ⟨g, 1, none⟩ (.slice a1 i c2) = w2 at *
  clear b1 f1
  go_wp2_with fail
  go_ret
  obtain ⟨v', j1, j2, j3⟩ := HK2.out
  exact ⟨v', rfl, j1, j2, j3⟩

theorem Values_ok (a : Option Addr) (n c : Nat) (w : World) : Calls Try.prog 32 #[.slice a n c] w fun e w' => e = .returned (.func (.func 41) #[] #[.pointer (some ⟨w.heap.size, 0, none⟩)]) ∧ w' = w.alloc (.cells #[.slice a n c] 39) := by
  go_enter Try.func32, Try.ntmps32
  go_wp2
  go_ret
  exact ⟨rfl, rfl⟩

set_option maxHeartbeats 1600000 in
theorem All_ok {w : World} {base g : Nat} {st : Int} {l : List S2} {v : Value} (h : IxAt w base g st l v) (hst : st ≠ 0) (hn : l.length ≤ 1000000) :
    Calls Try.prog 13 #[.pointer (some ⟨g, 0, none⟩)] w fun e w' =>
      ∃ B a2 c2, e = .returned (.func (.func 41) #[] #[.pointer (some ⟨B, 0, none⟩)]) ∧ w'.cell? ⟨B, 0, none⟩ = some (.slice a2 l.length c2) ∧ SpotsAt w' a2 l ∧ w.heap.size ≤ B ∧ B < w'.heap.size ∧ (∀ b off, a2 = some ⟨b, off, none⟩ → b < w'.heap.size) ∧ Below w.heap.size w w' := by
  have HN := hide (none_ok h.box)
  have q0 : (st == 0) = false := beq_eq_false_iff_ne.2 hst
  rw [q0] at HN
  obtain ⟨ao, cap, rfl, _, hnil, hs, _⟩ := h.own.any
  have c1 := h.box.cell1
  have HC := hide (Clone_ok ao cap l w hs hnil hn)
  have HLEN : Hid (l.length = l.length) := hide rfl
  clear h hs hst q0 hnil
  obtain ⟨n, hnn⟩ : ∃ n, n = l.length := ⟨_, rfl⟩
  rw [← hnn] at c1 HC ⊢
  have HNN := hide hnn
  clear hnn hn
  go_enter Try.func13, Try.ntmps13
  go_wp2_with (go_at_call 26; refine HN.out.mono ?_; rintro e w' ⟨rfl, rfl⟩)
  refine HC.out.mono ?_
  rintro e w1 ⟨v1, rfl, h1, hB⟩
  obtain ⟨a1, c2, rfl, _, _, hs1, hat⟩ := h1.any
  rw [← HNN.out] at *
  have HB := hide hB
  have HS := hide hs1
  have HAT := hide hat
  clear h1 hB hs1 hat c1
  go_wp2_with fail
  refine (Values_ok a1 n c2 w1).mono ?_
  rintro e w2 ⟨rfl, rfl⟩
  go_wp2_with fail
  go_ret
  refine ⟨w1.heap.size, a1, c2, rfl, ?_, HS.out.below ((Below.refl _ _).alloc (Nat.le_refl _) _) (Nat.le_refl _), HB.out.size, by simp, fun b off e => ?_, HB.out.alloc HB.out.size _⟩
  · rw [cell_of_row _ _ _ _ _ _ (heap_alloc_new w1 _)]; rfl
  · have := (HAT.out b off e).2.1
    simp
    omega

set_option maxHeartbeats 1600000 in
theorem Copy_ok {w : World} {base g : Nat} {st : Int} {l : List S2} {v : Value} (h : IxAt w base g st l v) (hst : st ≠ 0) (hn : l.length ≤ 1000000) :
    Calls Try.prog 11 #[.pointer (some ⟨g, 0, none⟩)] w fun e w' =>
      ∃ g2 v2, e = .returned (.pointer (some ⟨g2, 0, none⟩)) ∧ IxAt w' w.heap.size g2 st l v2 ∧ w.heap.size ≤ g2 ∧ Below w.heap.size w w' := by
  have HN := hide (none_ok h.box)
  have q0 : (st == 0) = false := beq_eq_false_iff_ne.2 hst
  rw [q0] at HN
  obtain ⟨ao, cap, rfl, _, hnil, hs, _⟩ := h.own.any
  have c1 : w.drew.cell? ⟨g, 1, none⟩ = some (.slice ao l.length cap) := h.box.cell1
  have c0 : w.drew.cell? ⟨g, 0, none⟩ = some (.int .i64 st) := h.box.cell0
  have hBD := (Below.refl w.heap.size w).drew
  have HC : Hid (∀ wr, Below w.heap.size w wr → wr.heap.size = w.heap.size → Calls Try.prog 28 #[.slice ao l.length cap] wr fun e w' => ∃ a2 c2, e = .returned (.slice a2 l.length c2) ∧ OwnSpots w' w.heap.size (.slice a2 l.length c2) l ∧ Below w.heap.size w w' ∧ w'.cell? ⟨g, 0, none⟩ = some (.int .i64 st)) := hide (fun wr hB hz => by
    refine (Clone_ok ao cap l wr (hs.below hB (Nat.le_refl _)) hnil hn).mono ?_
    rintro e w' ⟨v2, rfl, h2, hB2⟩
    obtain ⟨a2, c2, rfl, _⟩ := h2.any
    rw [hz] at h2
    have hB3 := hB.trans (hB2.mono hB.size)
    exact ⟨a2, c2, rfl, h2, hB3, (h.box.same hB3).cell0⟩)
  have HBD := hide hBD
  clear h hs hst q0 hnil hBD hn
  have HOW : Hid (∀ (w' : World) (v : Value), OwnSpots w' w.heap.size v l → OwnSpots w' w.heap.size v l) := hide (fun w' v h => h)
  generalize hnn : l.length = n at *
  go_enter Try.func11, Try.ntmps11
  go_wp2_with (go_at_call 26; refine HN.out.mono ?_; rintro e w' ⟨rfl, rfl⟩)
  go_region_with (go_at_call 28; refine (HC.out _ HBD.out rfl).mono ?_; rintro e w1 ⟨a2, c2, rfl, h2, hB, c0'⟩; have HO := hide h2; have HB := hide hB; clear h2 hB)
  all_goals (go_wp2_with fail; go_ret; exact ⟨_, _, rfl, ⟨BoxI.new _ st _, kept_below2 HO.out ((Below.refl _ _).alloc (Nat.le_refl _) _)⟩, HB.out.size, HB.out.alloc HB.out.size _⟩)
end Go.Proofs.Ythbknahmmegcdaa
