/- Walk of the reference's Read. -/
import Derived.Test.YthbknahmmegcdaaIxRefBytes
import Derived.Test.YthbknahmmegcdaaIxRead
namespace Go.Proofs.Ythbknahmmegcdaa
open Go.RowKit Go.Shelf
set_option linter.unusedVariables false

/-- a reference's index: its box, its row -/
structure RefO (w : World) (base gr : Nat) (st : Int) (l : List S2) (v : Value) : Prop where
  box : w.heap[gr]? = some (.cells #[.int .i64 st, v] 59 (0, 0))
  own : OwnSpots w base v l
theorem RefO.at {w : World} {base gr : Nat} {st : Int} {l : List S2} {v : Value} (h : RefO w base gr st l v) : ∃ ao cap, v = .slice ao l.length cap ∧ RefAt w gr st ao cap l := by
  obtain ⟨ao, cap, rfl, _, _, hs, _⟩ := h.own.any
  exact ⟨ao, cap, rfl, h.box, hs⟩
theorem RefO.lt {w : World} {base gr : Nat} {st : Int} {l : List S2} {v : Value} (h : RefO w base gr st l v) : gr < w.heap.size := (Array.getElem?_eq_some_iff.1 h.box).1
theorem RefO.call {w w' : World} {base gr : Nat} {st : Int} {l : List S2} {v : Value} (h : RefO w base gr st l v) (hB : Below w.heap.size w w') : RefO w' base gr st l v :=
  ⟨(hB.block gr h.lt).trans h.box, kept_below2 h.own hB⟩

/-- a part of the bytes as a number -/
theorem value_at (f : Nat → Nat) (hf : ∀ j, f j < 256) (n o m b off : Nat) (hm : m ≤ 8) (hle : o + m ≤ n) (w : World) (hs : CellsAt w (some ⟨b, off, none⟩) n (fun j => .int .u8 (f j : Nat))) (c : Nat) (W : World) (hB : Below w.heap.size w W) :
    Calls Try.prog 38 #[.slice (some ⟨b, off + o, none⟩) m c] W fun e w' => e = .returned (.int .u64 (valF f o m : Nat)) ∧ w' = W := by
  refine value_ok m hm f o hf (some ⟨b, off + o, none⟩) c W (fun j hj => ⟨b, off + o, rfl, ?_⟩)
  obtain ⟨b1, off1, e, h1⟩ := (hs.below hB (Nat.le_refl _)) (o + j) (by omega)
  injection e with e
  injection e with e1 e2
  subst e1 e2
  rw [Nat.add_assoc]
  exact h1

/-- the reference's reader between two rounds -/
structure RL (w wr : World) (g : Nat) (st : Int) (l : List S2) (v : Value) : Prop where
  bel : Below w.heap.size w wr
  lo : w.heap.size ≤ g
  box : wr.heap[g]? = some (.cells #[.int .i64 st, .slice none 0 0] 59 (0, 0))
  own : OwnSpots wr w.heap.size v l
theorem RL.call {w wr W : World} {g : Nat} {st : Int} {l : List S2} {v : Value} (h : RL w wr g st l v) (hB : Below wr.heap.size wr W) : RL w W g st l v :=
  ⟨h.bel.trans (hB.mono h.bel.size), h.lo, (hB.block g (Array.getElem?_eq_some_iff.1 h.box).1).trans h.box, kept_below2 h.own hB⟩
theorem RL.cell {w wr : World} {g : Nat} {st : Int} {l : List S2} {v : Value} (h : RL w wr g st l v) : wr.cell? ⟨g, 0, none⟩ = some (.int .i64 st) ∧ wr.cell? ⟨g, 1, none⟩ = some (.slice none 0 0) ∧ wr.frozen? ⟨g, 1, none⟩ = false :=
  ⟨by rw [cell_of_row _ _ _ _ _ _ h.box]; rfl, by rw [cell_of_row _ _ _ _ _ _ h.box]; rfl, frozen_of_row _ _ _ _ _ h.box⟩
theorem RL.fin {w wr : World} {g : Nat} {st : Int} {l : List S2} {v : Value} (h : RL w wr g st l v) : Below w.heap.size w (wr.setCell ⟨g, 1, none⟩ v) ∧ RefO (wr.setCell ⟨g, 1, none⟩ v) w.heap.size g st l v := by
  refine ⟨h.bel.setCell (p := ⟨g, 1, none⟩) h.lo _, ?_, ?_⟩
  · rw [setCell_eq_setRow _ g 1 _ _ _ _ h.box]
    exact setRow_heap _ _ _ _ _ _ h.box
  · have hne : some g ≠ v.ownBlock := cells_not_row h.box (by decide) h.own
    exact World.ownsRow.kept h.own (row := some g) ⟨rfl, rfl, rfl, by simp [World.setCell], fun k _ hk => Below.heap_setCell _ _ _ k (fun e => hk (by rw [e]))⟩ (.inr (Ne.symm hne))

theorem RL.app {w W w1 : World} {g : Nat} {st : Int} {l : List S2} {v v' : Value} {s : S2} {o : Obj} (h : RL w W g st l v) (hown : OwnSpots w1 w.heap.size v' (l ++ [s])) (hgrow : (W.alloc o).grownBy w1 v.ownBlock) : RL w w1 g st (l ++ [s]) v' := by
  have h1 := h.call ((Below.refl W.heap.size W).alloc (Nat.le_refl _) o)
  have hne : some g ≠ v.ownBlock := cells_not_row h1.box (by decide) h1.own
  exact ⟨h1.bel.grown hgrow h1.bel.size (fun r e => (h1.own.lt r e).1), h.lo, (hgrow.block g (Array.getElem?_eq_some_iff.1 h1.box).1 hne).trans h1.box, hown⟩
theorem readS_last {f : Nat → Nat} {st : Int} : ∀ {k : Nat} {l : List S2}, readS f st k = some l → l.length ≠ 0 → (lastS l).p ≤ 16777216
  | 0, l, h, hl => by
    simp only [readS, Option.some.injEq] at h
    subst h
    exact absurd rfl hl
  | k + 1, l, h, _ => by
    simp only [readS] at h
    split at h
    · cases h
    · split at h
      · rename_i hA
        simp only [Option.some.injEq] at h
        subst h
        have e : ∀ (l : List S2) (s : S2), lastS (l ++ [s]) = s := fun l s => by simp [lastS]
        rw [e]
        simp only [addB, mayB, Bool.and_eq_true, decide_eq_true_eq] at hA
        exact hA.1.1.2.2.2
      · cases h
/-- the reference's test -/
theorem ref_test {st : Int} (hst : 1 ≤ st) (l : List S2) (ov pv : Nat) : addB st l ⟨((min ov 4611686018427387904 : Nat) : Int), (pv : Nat)⟩ =
    (decide (ov ≤ 9007199254740992) && decide (pv ≤ 16777216) && (decide (l.length = 0) || (decide ((lastS l).o < (ov : Nat)) && decide (st ≤ (pv : Nat) - (lastS l).p)))) := by
  rw [Bool.eq_iff_iff]
  simp only [addB, mayB, nearB, Bool.and_eq_true, Bool.or_eq_true, decide_eq_true_eq, Bool.not_eq_true', Bool.and_eq_false_iff, decide_eq_false_iff_not, Bool.not_eq_false']
  generalize lastS l = m
  obtain ⟨mo, mp⟩ := m
  dsimp only
  omega

set_option maxRecDepth 100000 in
set_option maxHeartbeats 4000000 in
theorem refRead_ok (f : Nat → Nat) (hf : ∀ j, f j < 256) (a : Option Addr) (n c : Nat) (w : World) (hn : n ≤ 100000) (hc : n ≤ c) (hs : CellsAt w a n (fun j => .int .u8 (f j : Nat))) :
    Calls Try.prog 19 #[.slice a n c] w fun e w' => Below w.heap.size w w' ∧ (readF f n = none → e = .returned (.pointer none)) ∧
      (∀ st l, readF f n = some (st, l) → ∃ gr v, e = .returned (.pointer (some ⟨gr, 0, none⟩)) ∧ w.heap.size ≤ gr ∧ RefO w' w.heap.size gr st l v) := by
  obtain ⟨i0, hi, hz0, hz1, hz2⟩ := info_spot
  obtain ⟨X, hX⟩ : ∃ X, X = readF f n := ⟨_, rfl⟩
  rw [← hX]
  by_cases h8 : n < 8
  · as_aux_lemma =>
      have hXn : X = none := by rw [hX]; unfold readF; rw [if_pos h8]
      subst hXn
      have q1 : decide ((n : Int) < 8) = true := decide_eq_true (by omega)
      have q1' : decide (n < 8) = true := decide_eq_true h8
      clear hX hs
      go_enter Try.func19, Try.ntmps19
      go_wp2
      go_ret
      exact ⟨Below.refl _ _, fun _ => rfl, fun st l h => by cases h⟩
  · have q1 : decide ((n : Int) < 8) = false := decide_eq_false (by omega)
    have q1' : decide (n < 8) = false := decide_eq_false h8
    obtain ⟨b, off, rfl, _⟩ := hs 0 (by omega)
    have HV1 : Hid (∀ (c : Nat) (W : World), Below w.heap.size w W → Calls Try.prog 38 #[.slice (some ⟨b, off, none⟩) 4 c] W fun e w' => e = .returned (.int .u64 (valF f 0 4 : Nat)) ∧ w' = W) := hide (fun c W hB => (value_at f hf n 0 4 b off (by omega) (by omega) w hs c W hB))
    have HV2 : Hid (∀ (c : Nat) (W : World), Below w.heap.size w W → Calls Try.prog 38 #[.slice (some ⟨b, off + 4, none⟩) 4 c] W fun e w' => e = .returned (.int .u64 (valF f 4 4 : Nat)) ∧ w' = W) := hide (fun c W hB => (value_at f hf n 4 4 b off (by omega) (by omega) w hs c W hB))
    have h44 := valF_lt hf 4 0
    have h45 := valF_lt hf 4 4
    have hp4 : (256 : Nat) ^ 4 = 4294967296 := by decide
    rw [hp4] at h44 h45
    clear hp4
    have HS := hide hs
    have hc4 : (4 : Int) ≤ (c : Int) := by omega
    have hc8 : (8 : Int) ≤ (c : Int) := by omega
    clear hs
    go_enter Try.func19, Try.ntmps19
    go_wp2_with fail
    go_quiet ((go_at_call 38; first | (with_reducible exact Calls.quiet_of_same (HV1.out _ _ (belowDrewN (Below.refl _ _) _))) | (with_reducible exact Calls.quiet_of_same (HV2.out _ _ (belowDrewN (Below.refl _ _) _)))))
    have HB1 : Hid (Below w.heap.size w (w.drewN nq)) := hide (belowDrewN (Below.refl _ _) _)
    generalize (w.drewN nq : World) = w1 at *
    have hr0 : ¬ (n < 8) := h8
    have hXu : X = (if valF f 0 4 < 1 ∨ 16777216 < valF f 0 4 then none else if (n - 8) % 12 ≠ 0 ∨ valF f 4 4 ≠ (n - 8) / 12 then none else (readS f (valF f 0 4 : Nat) ((n - 8) / 12)).map fun l => (((valF f 0 4 : Nat) : Int), l)) := by rw [hX]; unfold readF; rw [if_neg h8]
    have HXU := hide hXu
    clear hX hXu HV1 HV2
    generalize valF f 0 4 = sn at *
    generalize valF f 4 4 = cnt at *
    have hw1 : IntKind.i64.wrap ((n : Int) - 8) = (n : Int) - 8 := by rw [IntKind.wrap_i64]; omega
    have hw2 : IntKind.u64.wrap ((n : Int) - 8) = (n : Int) - 8 := by rw [IntKind.wrap_u64]; omega
    have hw3 : IntKind.u64.wrap (12 * (cnt : Int)) = 12 * (cnt : Int) := by rw [IntKind.wrap_u64]; omega
    by_cases hst : sn < 1 ∨ 16777216 < sn
    · as_aux_lemma =>
        have hXn : X = none := by rw [HXU.out, if_pos hst]
        subst hXn
        by_cases h1 : sn < 1
        · have d1 : decide ((sn : Int) < 1) = true := decide_eq_true (by omega)
          have d1' : decide (sn < 1) = true := decide_eq_true h1
          have d1'' : decide (sn = 0) = true := decide_eq_true (by omega)
          clear hst h1
          go_wp2
          go_ret
          exact ⟨HB1.out, rfl⟩
        · have d1 : decide ((sn : Int) < 1) = false := decide_eq_false (by omega)
          have d1' : decide (sn < 1) = false := decide_eq_false h1
          have d1'' : decide (sn = 0) = false := decide_eq_false (by omega)
          have d2 : decide ((16777216 : Int) < (sn : Int)) = true := decide_eq_true (by omega)
          have d2' : decide (16777216 < sn) = true := decide_eq_true (by omega)
          clear hst h1
          go_wp2
          go_ret
          exact ⟨HB1.out, rfl⟩
    · have hsn1 : 1 ≤ sn := by omega
      have hsn2 : sn ≤ 16777216 := by omega
      have d1 : decide ((sn : Int) < 1) = false := decide_eq_false (by omega)
      have d1' : decide (sn < 1) = false := decide_eq_false (by omega)
      have d1'' : decide (sn = 0) = false := decide_eq_false (by omega)
      have d2 : decide ((16777216 : Int) < (sn : Int)) = false := decide_eq_false (by omega)
      have d2' : decide (16777216 < sn) = false := decide_eq_false (by omega)
      have hw4 : IntKind.i64.wrap (sn : Int) = (sn : Int) := by rw [IntKind.wrap_i64]; omega
      by_cases hm : n = 8 + 12 * cnt
      · have hXX : X = (readS f (sn : Nat) cnt).map fun l => (((sn : Nat) : Int), l) := by
          have hc : (n - 8) / 12 = cnt := by omega
          rw [HXU.out, if_neg hst, if_neg (by omega), hc]
        have HXX := hide hXX
        have q2 : ((n : Int) - 8 != 12 * (cnt : Int)) = false := by simp; omega
        have HM := hide hm
        clear hXX HXU hm hst
        have hw9 : w1.heap.size = w1.heap.size := rfl
        go_wp2_with fail
        have HL0 : Hid (RL w (w1.alloc (.cells #[.int .i64 (sn : Nat), .slice none 0 0] 59)) w1.heap.size (sn : Nat) [] (.slice none 0 0)) := hide ⟨HB1.out.alloc HB1.out.size _, HB1.out.size, heap_alloc_new w1 _, rfl, .inl ⟨rfl, rfl⟩⟩
        generalize (w1.alloc (.cells #[.int .i64 (sn : Nat), .slice none 0 0] 59)) = w2 at *
        generalize w1.heap.size = g at *
        clear hw1 hw2 hw3 hw9 q2
        go_loopw [6, 7] (fun v i wr => ∃ (k : Nat) (l : List S2), k ≤ cnt ∧ i = .int .i64 ((8 + 12 * k : Nat) : Int) ∧ Hid (readS f (sn : Nat) k = some l) ∧ Hid (RL w wr g (sn : Nat) l v)) (fun _ i _ => n - (intOf i).toNat)
        case atStart => exact ⟨0, [], Nat.zero_le _, rfl, hide rfl, HL0⟩
        case round =>
          obtain ⟨k, l, hk, rfl, HRS, HL⟩ := hrel
          have hnn := HM.out
          obtain ⟨g0, g1, g2⟩ := HL.out.cell
          obtain ⟨ao, cap, rfl, hcap, hnil, hsp, hbo⟩ := HL.out.own.any
          have HSP := hide hsp
          have HNI := hide hnil
          clear hsp hnil hbo
          by_cases hlt : k < cnt
          · as_aux_lemma =>
            have d3 : decide (((8 + 12 * k : Nat) : Int) < (n : Int)) = true := decide_eq_true (by omega)
            have d3' : decide (8 + 12 * k < n) = true := decide_eq_true (by omega)
            have HVA : Hid (∀ (c : Nat) (W : World), Below w.heap.size w W → Calls Try.prog 38 #[.slice (some ⟨b, off + (8 + 12 * k), none⟩) 8 c] W fun e w' => e = .returned (.int .u64 (valF f (8 + 12 * k) 8 : Nat)) ∧ w' = W) := hide (fun c W hB => value_at f hf n (8 + 12 * k) 8 b off (by omega) (by omega) w HS.out c W hB)
            have HVB : Hid (∀ (c : Nat) (W : World), Below w.heap.size w W → Calls Try.prog 38 #[.slice (some ⟨b, off + (8 + 12 * k + 8), none⟩) 4 c] W fun e w' => e = .returned (.int .u64 (valF f (8 + 12 * k + 8) 4 : Nat)) ∧ w' = W) := hide (fun c W hB => value_at f hf n (8 + 12 * k + 8) 4 b off (by omega) (by omega) w HS.out c W hB)
            have HTE : Hid (addB (sn : Nat) l (spotAt f k) = (decide (valF f (8 + 12 * k) 8 ≤ 9007199254740992) && decide (valF f (8 + 12 * k + 8) 4 ≤ 16777216) && (decide (l.length = 0) || (decide ((lastS l).o < (valF f (8 + 12 * k) 8 : Nat)) && decide (((sn : Nat) : Int) ≤ (valF f (8 + 12 * k + 8) 4 : Nat) - (lastS l).p))))) := hide (ref_test (by omega) l _ _)
            have HSU : Hid (readS f (sn : Nat) (k + 1) = if addB (sn : Nat) l (spotAt f k) then some (l ++ [spotAt f k]) else none) := hide (by simp only [readS, HRS.out])
            have HSP2 : Hid (valF f (8 + 12 * k) 8 ≤ 9007199254740992 → spotAt f k = ⟨(valF f (8 + 12 * k) 8 : Nat), (valF f (8 + 12 * k + 8) 4 : Nat)⟩) := hide (fun h => by
              unfold spotAt
              rw [Nat.min_eq_left (by omega)])
            have HLK : Hid (l.length = k) := hide (readS_len HRS.out).1
            have HLP : Hid (l.length ≠ 0 → 0 ≤ (lastS l).p ∧ (lastS l).p ≤ 16777216) := hide (fun h => ⟨(readS_len HRS.out).2 h, readS_last HRS.out h⟩)
            have HKL : Hid (k ≤ 100000) := hide (by omega)
            have HLS : Hid (l.length ≠ 0 → ∀ W, Below wr.heap.size wr W → ∃ blk of, ao = some ⟨blk, of, none⟩ ∧ W.cell? ⟨blk, of + (l.length - 1) * 2, none⟩ = some (.int .i64 (lastS l).o) ∧ W.cell? ⟨blk, of + (l.length - 1) * 2 + 1, none⟩ = some (.int .i64 (lastS l).p)) := hide (fun h W hB => (HSP.out.below hB (Nat.le_refl _)) (l.length - 1) (by omega))
            have HXN : Hid (readS f (sn : Nat) (k + 1) = none → X = none) := hide (fun h => by rw [HXX.out, readS_none h cnt (by omega)]; rfl)
            have HLT := hide hlt
            have HO : Hid (8 + 12 * (k + 1) = 8 + 12 * k + 12 ∧ 8 + 12 * k + 12 ≤ n) := hide (by omega)
            have hoc : 8 + 12 * k + 12 ≤ c := by omega
            clear HXX HRS hlt hnn HM
            generalize 8 + 12 * k = o at *
            generalize valF f o 8 = ov at *
            generalize valF f (o + 8) 4 = pv at *
            have hon := HO.out.2
            have hw5 : IntKind.i64.wrap ((o : Int) + 8) = (o : Int) + 8 := by rw [IntKind.wrap_i64]; omega
            have hw6 : IntKind.i64.wrap ((o : Int) + 12) = (o : Int) + 12 := by rw [IntKind.wrap_i64]; omega
            have s1 : (o : Int) + 8 ≤ (c : Int) := by omega
            have s2 : (o : Int) + 12 ≤ (c : Int) := by omega
            go_wp2_with fail
            go_quiet ((go_at_call 38; first | (with_reducible exact Calls.quiet_of_same (HVA.out _ _ (belowDrewN HL.out.bel _))) | (with_reducible exact Calls.quiet_of_same (HVB.out _ _ (belowDrewN HL.out.bel _)))))
            have HL1 := hide (HL.out.call (belowDrewN (Below.refl _ _) nq))
            have HBW : Hid (Below wr.heap.size wr (wr.drewN nq)) := hide (belowDrewN (Below.refl _ _) nq)
            generalize (wr.drewN nq : World) = w3 at *
            clear HL g0 g1 g2 HVA HVB
            by_cases ht1 : ov ≤ 9007199254740992 ∧ pv ≤ 16777216
            · obtain ⟨hov, hpv⟩ := ht1
              have e1 : decide ((9007199254740992 : Int) < (ov : Int)) = false := decide_eq_false (by omega)
              have e1' : decide (9007199254740992 < ov) = false := decide_eq_false (by omega)
              have e2 : decide ((16777216 : Int) < (pv : Int)) = false := decide_eq_false (by omega)
              have e2' : decide (16777216 < pv) = false := decide_eq_false (by omega)
              have w7 : IntKind.i64.wrap (ov : Int) = (ov : Int) := by rw [IntKind.wrap_i64]; omega
              have w8 : IntKind.i64.wrap (pv : Int) = (pv : Int) := by rw [IntKind.wrap_i64]; omega
              have hsa := HSP2.out hov
              rw [hsa, decide_eq_true hov, decide_eq_true hpv, Bool.true_and, Bool.true_and] at HTE
              rw [hsa] at HSU
              clear HSP2 hsa
              clear HSP HNI
              have HAP : Hid (∀ (w1 : World) (bb cc : Nat), w1.ownsRow w.heap.size 31 2 (.slice (some ⟨bb, 0, none⟩) (l.length + 1) cc) (l.length + 1) (spotCells l ++ [.int .i64 (ov : Nat), .int .i64 (pv : Nat)]) → OwnSpots w1 w.heap.size (.slice (some ⟨bb, 0, none⟩) (l.length + 1) cc) (l ++ [⟨(ov : Nat), (pv : Nat)⟩])) := hide (fun w1 bb cc h => by
                unfold OwnSpots
                rw [List.length_append, List.length_singleton, spotCells_append]
                exact h)
              have HOW := hide HL1.out.own
              unfold OwnSpots at HOW
              have hcap' : l.length ≤ cap := hcap
              generalize hlnn : l.length = ln at *
              have HLNN := hide hlnn
              clear hlnn hcap hcap'
              generalize spotCells l = PL at *
              have hln5 : ln ≤ 100000 := by rw [HLK.out]; exact HKL.out
              go_wp2_with fail
              have HL4 := hide (HL1.out.call ((Below.refl _ _).alloc (Nat.le_refl _) (.cells #[.int .i64 (ov : Nat), .int .i64 (pv : Nat)] 31)))
              have HOW4 := hide (HOW.out.alloc (.cells #[.int .i64 (ov : Nat), .int .i64 (pv : Nat)] 31))
              have HB4 := hide (HBW.out.trans (((Below.refl _ _).alloc (Nat.le_refl _) (.cells #[.int .i64 (ov : Nat), .int .i64 (pv : Nat)] 31)).mono HBW.out.size))
              obtain ⟨t0, t1⟩ := spot_new w3 ov pv
              clear HL1 HOW HBW
              generalize (w3.alloc (.cells #[.int .i64 (ov : Nat), .int .i64 (pv : Nat)] 31)) = w4 at *
              generalize w3.heap.size = tb at *
              obtain ⟨g0, g1, g2⟩ := HL4.out.cell
              have b4 : w.heap.size ≤ w4.heap.size := HL4.out.bel.size
              by_cases hA : ln = 0 ∨ ((lastS l).o < (ov : Int) ∧ ((sn : Nat) : Int) ≤ (pv : Int) - (lastS l).p)
              · have hT : (decide (ln = 0) || (decide ((lastS l).o < (ov : Int)) && decide (((sn : Nat) : Int) ≤ (pv : Int) - (lastS l).p))) = true := by simpa using hA
                rw [HTE.out, hT, if_pos rfl] at HSU
                clear HTE hT
                by_cases hln : ln = 0
                case' pos =>
                  have dz : decide ((0 : Int) < (ln : Int)) = false := decide_eq_false (by omega)
                  have dz' : decide (0 < ln) = false := decide_eq_false (by omega)
                  clear hA hln HLS HLP
                  go_quiet (fail)
                case' neg =>
                  obtain ⟨h1, h2⟩ := hA.resolve_left hln
                  have dz : decide ((0 : Int) < (ln : Int)) = true := decide_eq_true (by omega)
                  have dz' : decide (0 < ln) = true := decide_eq_true (by omega)
                  obtain ⟨lb, lo, rfl, m0, m1⟩ := HLS.out hln w4 HB4.out
                  have hlp := HLP.out hln
                  have hwl : IntKind.i64.wrap ((ln : Int) - 1) = ((ln - 1 : Nat) : Int) := by rw [IntKind.wrap_i64]; omega
                  have hi1 : ((ln - 1 : Nat) : Int) < (ln : Int) := by omega
                  have hi2 : ln - 1 < ln := by omega
                  generalize lastS l = m at *
                  obtain ⟨mo, mp⟩ := m
                  dsimp only at *
                  have dd1 : decide ((ov : Int) ≤ mo) = false := decide_eq_false (by omega)
                  have dd2 : decide ((pv : Int) - mp < (sn : Int)) = false := decide_eq_false (by omega)
                  have hwm : IntKind.i64.wrap ((pv : Int) - mp) = (pv : Int) - mp := by rw [IntKind.wrap_i64]; omega
                  clear h1 h2 hlp hA hln HLS HLP
                  go_quiet (fail)
                all_goals
                  have HL5 := hide (HL4.out.call (belowDrewN (Below.refl _ _) nq))
                  have HOW5 := hide (HOW4.out.kept (row := none) (w' := w4.drewN nq) ⟨rfl, rfl, rfl, Nat.le_refl _, fun _ _ _ => rfl⟩ (by cases (Value.slice _ ln cap).ownBlock <;> simp))
                  have t0' : (w4.drewN nq).cell? ⟨tb, 0, none⟩ = some (.int .i64 (ov : Nat)) := t0
                  have t1' : (w4.drewN nq).cell? ⟨tb, 1, none⟩ = some (.int .i64 (pv : Nat)) := t1
                  have HSZ5 : Hid (w.heap.size ≤ (w4.drewN nq).heap.size) := hide b4
                  generalize (w4.drewN nq : World) = w5 at *
                  clear t0 t1 g0 g1 g2 b4 HL4 HOW4 HB4
                  go_wp2_with (at_builtin; refine wpList_append_lies _ rfl _ _ 39 rfl w.heap.size 31 i0 (.agg #[.int .i64 0, .int .i64 0]) 2 16 Try.underlying39 hi hz0 hz1 hz2 rfl (by decide) _ ln PL rfl (HOW5.out.alloc _) ⟨w5.heap.size, 0, none⟩ 1 1 [.int .i64 (ov : Nat), .int .i64 (pv : Nat)] rfl rfl (World.news_of_block (heap_alloc_new w5 (.cells #[.int .i64 (ov : Nat), .int .i64 (pv : Nat)] 31))) (by intro u hu; simp at hu; rcases hu with rfl | rfl <;> rfl) (by omega) (by unfold maxLen; omega) (by omega) (by have := HSZ5.out; simp; omega) _ rfl ?_; intro bb cc w6 hown hgrow hat hlt1; have HL6 := hide (HL5.out.app (HAP.out w6 bb cc hown) hgrow); clear hown hgrow hat hlt1)
                  go_roundw
                  case rel => exact ⟨k + 1, _, HLT.out, by rw [HO.out.1]; go_num, HSU, HL6⟩
                  case measure => have := HO.out; simp [intOf]; omega
              · as_aux_lemma =>
                  have hln : ln ≠ 0 := fun h => hA (.inl h)
                  have HNN : Hid (X = none) := hide (HXN.out (by
                    rw [HSU.out, HTE.out, if_neg]
                    simp
                    omega))
                  have dz : decide ((0 : Int) < (ln : Int)) = true := decide_eq_true (by omega)
                  have dz' : decide (0 < ln) = true := decide_eq_true (by omega)
                  obtain ⟨lb, lo, rfl, m0, m1⟩ := HLS.out hln w4 HB4.out
                  have hlp := HLP.out hln
                  have hwl : IntKind.i64.wrap ((ln : Int) - 1) = ((ln - 1 : Nat) : Int) := by rw [IntKind.wrap_i64]; omega
                  have hi1 : ((ln - 1 : Nat) : Int) < (ln : Int) := by omega
                  have hi2 : ln - 1 < ln := by omega
                  generalize lastS l = m at *
                  obtain ⟨mo, mp⟩ := m
                  dsimp only at *
                  clear HLS HLP HSU HTE
                  have hA2 : ov ≤ mo ∨ (pv : Int) - mp < (sn : Int) := by omega
                  clear hA
                  by_cases h1 : (ov : Int) ≤ mo
                  · have dd1 : decide ((ov : Int) ≤ mo) = true := decide_eq_true h1
                    clear h1 hA2 hlp hln
                    go_quiet (fail)
                    have HBF := hide (HL4.out.bel.trans ((belowDrewN (Below.refl _ _) nq).mono HL4.out.bel.size))
                    go_wp2_with fail
                    go_ret
                    exact ⟨HBF.out, fun _ => rfl, fun st l h => by rw [HNN.out] at h; cases h⟩
                  · have dd1 : decide ((ov : Int) ≤ mo) = false := decide_eq_false h1
                    have dd2 : decide ((pv : Int) - mp < (sn : Int)) = true := decide_eq_true (by omega)
                    have hwm : IntKind.i64.wrap ((pv : Int) - mp) = (pv : Int) - mp := by rw [IntKind.wrap_i64]; omega
                    clear h1 hA2 hlp hln
                    go_quiet (fail)
                    have HBF := hide (HL4.out.bel.trans ((belowDrewN (Below.refl _ _) nq).mono HL4.out.bel.size))
                    go_wp2_with fail
                    go_ret
                    exact ⟨HBF.out, fun _ => rfl, fun st l h => by rw [HNN.out] at h; cases h⟩
            · as_aux_lemma =>
                have HNN : Hid (X = none) := hide (HXN.out (by
                  rw [HSU.out, HTE.out, if_neg]
                  simp
                  omega))
                have HBF := hide HL1.out.bel
                clear HL1 HBW HSP HLS HLP HTE HSU HXN
                by_cases h1 : ov ≤ 9007199254740992
                · have e1 : decide ((9007199254740992 : Int) < (ov : Int)) = false := decide_eq_false (by omega)
                  have e1' : decide (9007199254740992 < ov) = false := decide_eq_false (by omega)
                  have e2 : decide ((16777216 : Int) < (pv : Int)) = true := decide_eq_true (by omega)
                  have e2' : decide (16777216 < pv) = true := decide_eq_true (by omega)
                  clear ht1 h1
                  go_wp2_with fail
                  go_ret
                  exact ⟨HBF.out, fun _ => rfl, fun st l h => by rw [HNN.out] at h; cases h⟩
                · have e1 : decide ((9007199254740992 : Int) < (ov : Int)) = true := decide_eq_true (by omega)
                  have e1' : decide (9007199254740992 < ov) = true := decide_eq_true (by omega)
                  clear ht1 h1
                  go_wp2_with fail
                  go_ret
                  exact ⟨HBF.out, fun _ => rfl, fun st l h => by rw [HNN.out] at h; cases h⟩
          · obtain rfl : k = cnt := by omega
            have d3 : decide (((8 + 12 * k : Nat) : Int) < (n : Int)) = false := decide_eq_false (by omega)
            have d3' : decide (8 + 12 * k < n) = false := decide_eq_false (by omega)
            have HXF : Hid (X = some (((sn : Nat) : Int), l)) := hide (by rw [HXX.out, HRS.out]; rfl)
            have HF := hide HL.out.fin
            clear hlt hk hnn HM HXX HRS
            generalize 8 + 12 * k = o at *
            go_wp2_with fail
            go_ret
            refine ⟨HF.out.1, ?_, ?_⟩
            · rw [HXF.out]; intro h; cases h
            · rw [HXF.out]; intro st l h; cases h; exact ⟨_, _, rfl, HL.out.lo, HF.out.2⟩
      · as_aux_lemma =>
          have hXn : X = none := by rw [HXU.out, if_neg hst, if_pos (by omega)]
          subst hXn
          have q2 : ((n : Int) - 8 != 12 * (cnt : Int)) = true := by simp; omega
          clear hst hm
          go_wp2
          go_ret
          exact ⟨HB1.out, rfl⟩
end Go.Proofs.Ythbknahmmegcdaa
