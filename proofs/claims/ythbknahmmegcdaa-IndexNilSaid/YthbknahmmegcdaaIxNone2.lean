/- The walk of the law's none. -/
import Derived.Test.YthbknahmmegcdaaIxNone
namespace Go.Proofs.Ythbknahmmegcdaa
open Go.RowKit Go.Shelf
set_option linter.unusedVariables false
attribute [local go_sem] Oper.semAt_some

structure NSt (w wc : World) (b : Bool) : Prop where
  bel : Below w.heap.size w wc
  res : wc.heap[w.heap.size + 1]? = some (.cells #[.bool b] 4 (0, 0))
theorem NSt.call {w wc w2 : World} {b : Bool} (h : NSt w wc b) (hB : Below wc.heap.size wc w2) : NSt w w2 b :=
  ⟨h.bel.trans (hB.mono h.bel.size), (hB.block _ (Array.getElem?_eq_some_iff.1 h.res).1).trans h.res⟩
theorem NSt.alloc {w wc : World} {b : Bool} (h : NSt w wc b) (o : Obj) : NSt w (wc.alloc o) b := h.call ((Below.refl _ _).alloc (Nat.le_refl _) o)

set_option maxRecDepth 100000 in
set_option maxHeartbeats 4000000 in
theorem none_walk (a : Option Addr) (x : Int) (s : S2) (w : World) (h : NC w a) :
    Calls Try.prog 21 #[.pointer a, .int .i64 x, .agg (spotV s)] w fun e w' => e = .returned (.bool true) ∧ Below w.heap.size w w' := by
  obtain ⟨so, sp⟩ := s
  unfold spotV
  have hnil : ∀ w : World, (binOp BinOp.eql 36 (.func (.func 31) #[] #[]) .nilFunc).run Try.prog w = .ok (.bool false) w := fun _ => by kernel_rfl
  have HBY := hide (fun wr hB => Bytes_none h wr hB)
  have HAL := hide (fun wr hB => All_none h wr hB)
  have HCU := hide (fun wr hB => Cut_none h x wr hB)
  have HCO := hide (fun wr hB => Copy_none h wr hB)
  obtain ⟨w0, hw0⟩ : ∃ w0, w0 = (w.alloc (.cells #[.int .i64 so, .int .i64 sp] 31)).alloc (.cells #[.bool false] 4) := ⟨_, rfl⟩
  have k1 : (w.alloc (.cells #[.int .i64 so, .int .i64 sp] 31)).heap.size = w.heap.size + 1 := by simp
  have hb2 : Below w.heap.size w w0 := by rw [hw0]; exact ((Below.refl w.heap.size w).alloc (Nat.le_refl _) _).alloc (by simp) _
  have hbS : w0.heap[w.heap.size]? = some (.cells #[.int .i64 so, .int .i64 sp] 31 (0, 0)) := by
    rw [hw0]
    exact (((Below.refl _ _).alloc (Nat.le_refl _) _).block w.heap.size (by simp)).trans (heap_alloc_new w _)
  have hbR : w0.heap[w.heap.size + 1]? = some (.cells #[.bool false] 4 (0, 0)) := by rw [hw0, ← k1]; exact heap_alloc_new _ _
  have s0 : w0.cell? ⟨w.heap.size, 0, none⟩ = some (.int .i64 so) := by rw [cell_of_row _ _ _ _ _ _ hbS]; rfl
  have s1 : w0.cell? ⟨w.heap.size, 1, none⟩ = some (.int .i64 sp) := by rw [cell_of_row _ _ _ _ _ _ hbS]; rfl
  have HR := hide hbR
  have HB0 := hide hb2
  clear hbS hbR hb2 k1
  refine (callsIn_wide (n := 3)).1 ?_
  refine callsIn_of_wp_marks Try.func21 rfl trivial ?_
  simp only [Try.ntmps21, List.size_toArray, List.length_cons, List.length_nil, Nat.reduceAdd, Nat.reduceSub, Array.replicate_succ, Array.replicate_zero, List.push_toArray, List.append_toArray, List.nil_append, List.cons_append]
  gi_wp2_with fail
  rw [← hw0]
  have HX0 : Hid (NSt w w0 false) := hide ⟨HB0.out, HR.out⟩
  clear hw0 HB0 HR s0 s1
  refine ⟨trivial, (callsIn_wide.2 (h.add w0 HX0.out.bel so sp)).mono ?_⟩
  rintro e w1 ⟨rfl, hB⟩
  have HX1 := hide (HX0.out.call hB)
  clear hB
  gi_wp2_with fail
  refine ⟨trivial, (callsIn_wide.2 (h.find w1 HX1.out.bel x)).mono ?_⟩
  rintro e w2 ⟨rfl, hB⟩
  have HX2 := hide ((HX1.out.call hB).alloc (.cells #[.int .i64 0, .int .i64 0] 31))
  have HF2 := hide (heap_alloc_new w2 (.cells #[.int .i64 0, .int .i64 0] 31))
  clear hB
  gi_wp2_with fail
  refine ⟨trivial, (callsIn_wide.2 (h.at_ _ HX2.out.bel x)).mono ?_⟩
  rintro e w3 ⟨rfl, hB⟩
  have HF3 : Hid (w3.heap[w2.heap.size]? = some (.cells #[.int .i64 0, .int .i64 0] 31 (0, 0))) := hide ((hB.block w2.heap.size (by simp)).trans HF2.out)
  have HX3 := hide ((HX2.out.call hB).alloc (.cells #[.int .i64 0, .int .i64 0] 31))
  have HG3 := hide (heap_alloc_new w3 (.cells #[.int .i64 0, .int .i64 0] 31))
  have HS3 : Hid (w2.heap.size < w3.heap.size) := hide (Array.getElem?_eq_some_iff.1 HF3.out).1
  have HK3 : Hid ((w3.alloc (.cells #[.int .i64 0, .int .i64 0] 31)).heap[w2.heap.size]? = some (.cells #[.int .i64 0, .int .i64 0] 31 (0, 0))) := hide ((((Below.refl w3.heap.size w3).alloc (Nat.le_refl _) _).block w2.heap.size HS3.out).trans HF3.out)
  clear hB HF2 HF3 HX2 HX1 HX0
  obtain ⟨w4, hw4⟩ : ∃ w4, w4 = w3.alloc (.cells #[.int .i64 0, .int .i64 0] 31) := ⟨_, rfl⟩
  rw [← hw4] at HX3 HG3 HK3
  gi_wp2_with fail
  rw [← hw4]
  clear hw4
  generalize w3.heap.size = b3 at *
  generalize w2.heap.size = b2 at *
  refine ⟨trivial, (callsIn_wide.2 (HBY.out w4 HX3.out.bel)).mono ?_⟩
  rintro e w' ⟨rfl, rfl⟩
  gi_wp2_with fail
  refine ⟨trivial, (callsIn_wide.2 (HAL.out w4 HX3.out.bel)).mono ?_⟩
  rintro e w' ⟨rfl, rfl⟩
  gi_wp2_with fail
  refine wpIn_rangeFunc_ownF rfl (by omega) (gf := 31) (lb := #[]) rfl trivial (enters_of Try.func31 (by kernel_rfl) rfl)
    (All1_stops 2 (Below w4.heap.size) w4) belowK_t (belowK_b (Nat.le_refl _)) (Below.refl _ _) (fun _ => rfl)
    (fun _ W => Below w4.heap.size w4 W) (fun _ _ _ => False) (ownFrom_below (Nat.le_refl _) (Nat.le_refl _)) (fun _ _ _ _ _ hs _ _ => hs) (Below.refl _ _) ?a1 ?assign ?body ?done ?stop
  case assign =>
    intro l x W K hK
    gi_wp2
    exact hK
  case body =>
    intro l pre x W _ h0
    exact absurd h0 (Nat.not_lt_zero _)
  case stop => exact fun D c pre W _ _ hf _ => hf.elim
  case done =>
    rintro D xs W hD rfl hI hK
    have HXW := hide (HX3.out.call hI)
    have HK := hide hK
    have hF : W.heap[b2]? = some (.cells #[.int .i64 0, .int .i64 0] 31 (0, 0)) := (hI.block b2 (Array.getElem?_eq_some_iff.1 HK3.out).1).trans HK3.out
    have hG : W.heap[b3]? = some (.cells #[.int .i64 0, .int .i64 0] 31 (0, 0)) := (hI.block b3 (Array.getElem?_eq_some_iff.1 HG3.out).1).trans HG3.out
    have f0 : W.cell? ⟨b2, 0, none⟩ = some (.int .i64 0) := by rw [cell_of_row _ _ _ _ _ _ hF]; rfl
    have f1 : W.cell? ⟨b2, 1, none⟩ = some (.int .i64 0) := by rw [cell_of_row _ _ _ _ _ _ hF]; rfl
    have g0 : W.cell? ⟨b3, 0, none⟩ = some (.int .i64 0) := by rw [cell_of_row _ _ _ _ _ _ hG]; rfl
    have g1 : W.cell? ⟨b3, 1, none⟩ = some (.int .i64 0) := by rw [cell_of_row _ _ _ _ _ _ hG]; rfl
    have HDS : Hid (w.heap.size + 1 < D) := hide (Nat.lt_of_lt_of_le (Array.getElem?_eq_some_iff.1 HX3.out.res).1 hD)
    clear hI hK HX3 hF hG HK3 HG3 HBY HAL hD
    gi_wp2_with fail
    refine ⟨trivial, (callsIn_wide.2 (HCU.out W HXW.out.bel)).mono ?_⟩
    rintro e W2 ⟨rfl, hB⟩
    have HX4 := hide (HXW.out.call hB)
    have HK4 : Hid (W2.heap[D]? = some (.deferred (some []))) := hide ((hB.block D (Array.getElem?_eq_some_iff.1 HK.out).1).trans HK.out)
    clear hB f0 f1 g0 g1 HXW HK
    gi_wp2_with fail
    refine ⟨trivial, (callsIn_wide.2 (h.len W2 HX4.out.bel)).mono ?_⟩
    rintro e w' ⟨rfl, rfl⟩
    gi_wp2_with fail
    refine ⟨trivial, (callsIn_wide.2 (HCO.out W2 HX4.out.bel)).mono ?_⟩
    rintro e w' ⟨rfl, rfl⟩
    have r0 : W2.cell? ⟨w.heap.size + 1, 0, none⟩ = some (.bool false) := by rw [cell_of_row _ _ _ _ _ _ HX4.out.res]; rfl
    have r1 : W2.frozen? ⟨w.heap.size + 1, 0, none⟩ = false := frozen_of_row _ _ _ _ _ HX4.out.res
    have hr : (W2.setCell ⟨w.heap.size + 1, 0, none⟩ (.bool true)).heap[w.heap.size + 1]? = some (.cells #[.bool true] 4 (0, 0)) := by
      rw [setCell_eq_setRow _ _ 0 _ _ _ _ HX4.out.res]
      exact setRow_heap _ _ _ _ _ _ HX4.out.res
    have hKD : (W2.setCell ⟨w.heap.size + 1, 0, none⟩ (.bool true)).heap[D]? = some (.deferred (some [])) := (Below.heap_setCell _ _ _ D (by have := HDS.out; intro e; have e' : D = w.heap.size + 1 := e; omega)).trans HK4.out
    have HR := hide hr
    have HKD := hide hKD
    have HBE := hide (HX4.out.bel.setCell (p := ⟨w.heap.size + 1, 0, none⟩) (by show w.heap.size ≤ w.heap.size + 1; omega) (.bool true))
    clear hr hKD
    gi_wp2_with fail
    refine ⟨by simp, .inl ⟨_, _, rfl, run_takeDeferred HKD.out, ?_⟩⟩
    have hc : ((W2.setCell ⟨w.heap.size + 1, 0, none⟩ (.bool true)).putObj D (.deferred none)).cell? ⟨w.heap.size + 1, 0, none⟩ = some (.bool true) := by
      have e : ((W2.setCell ⟨w.heap.size + 1, 0, none⟩ (.bool true)).putObj D (.deferred none)).heap[w.heap.size + 1]? = (W2.setCell ⟨w.heap.size + 1, 0, none⟩ (.bool true)).heap[w.heap.size + 1]? := World.putObj_heap_other (by have := HDS.out; omega)
      rw [cell_of_row _ _ _ _ _ _ (e.trans HR.out)]
      rfl
    refine ⟨.bool true, (by simp [results, Try.results21, go_sem, hc]), rfl, ?_⟩
    exact HBE.out.trans ((Below.refl w.heap.size _).grown (grownBy_putObj' _ D (.deferred none)) HBE.out.size (by intro k e; cases e; have := HDS.out; omega))
end Go.Proofs.Ythbknahmmegcdaa
