/- IndexCuts: behind a cut nothing is found at that place or behind it. -/
import Derived.Test.YthbknahmmegcdaaIxCutsPlain
import Derived.Maps.AppendAt
import Derived.Test.YthbknahmmegcdaaRound
namespace Go.Proofs.Ythbknahmmegcdaa
open Go.RowKit Go.Shelf
set_option linter.unusedVariables false

/-- two indexes: the whole and the one that is cut -/
structure XO (w0 wc : World) (gx g2 b2 : Nat) (st : Int) (L M : List S2) : Prop where
  bel : Below w0.heap.size w0 wc
  x : ∃ v, IxAt wc w0.heap.size gx st L v
  o : ∃ v, IxAt wc b2 g2 st M v
theorem XO.call {w0 wc w2 : World} {gx g2 b2 : Nat} {st : Int} {L M : List S2} (h : XO w0 wc gx g2 b2 st L M) (hB : Below wc.heap.size wc w2) : XO w0 w2 gx g2 b2 st L M := by
  obtain ⟨v, hv⟩ := h.x
  obtain ⟨u, hu⟩ := h.o
  exact ⟨h.bel.trans (hB.mono h.bel.size), ⟨v, hv.call hB⟩, ⟨u, hu.call hB⟩⟩
/-- the place's box and the result's -/
structure PR (w w0 : World) (x : Int) : Prop where
  bel : Below w.heap.size w w0
  plc : w0.heap[w.heap.size]? = some (.cells #[.int .i64 x] 3 (0, 0))
  res : w0.heap[w.heap.size + 1]? = some (.cells #[.bool false] 4 (0, 0))
theorem PR.new (w : World) (x : Int) : PR w ((w.alloc (.cells #[.int .i64 x] 3)).alloc (.cells #[.bool false] 4)) x := by
  have k1 : (w.alloc (.cells #[.int .i64 x] 3)).heap.size = w.heap.size + 1 := by simp
  refine ⟨((Below.refl w.heap.size w).alloc (Nat.le_refl _) _).alloc (by simp) _, ?_, ?_⟩
  · exact (((Below.refl _ _).alloc (Nat.le_refl _) _).block w.heap.size (by simp)).trans (heap_alloc_new w _)
  · rw [← k1]; exact heap_alloc_new _ _
theorem PR.call {w w0 wc : World} {x : Int} (h : PR w w0 x) (hB : Below w0.heap.size w0 wc) : PR w wc x :=
  ⟨h.bel.trans (hB.mono h.bel.size), (hB.block _ (Array.getElem?_eq_some_iff.1 h.plc).1).trans h.plc, (hB.block _ (Array.getElem?_eq_some_iff.1 h.res).1).trans h.res⟩
theorem PR.cell {w w0 : World} {x : Int} (h : PR w w0 x) : w0.cell? ⟨w.heap.size, 0, none⟩ = some (.int .i64 x) := by rw [cell_of_row _ _ _ _ _ _ h.plc]; rfl
theorem PR.rcell {w w0 : World} {x : Int} (h : PR w w0 x) : w0.cell? ⟨w.heap.size + 1, 0, none⟩ = some (.bool false) ∧ w0.frozen? ⟨w.heap.size + 1, 0, none⟩ = false := ⟨by rw [cell_of_row _ _ _ _ _ _ h.res]; rfl, frozen_of_row _ _ _ _ _ h.res⟩
/-- the result stored -/
theorem PR.set {w w0 : World} {x : Int} (h : PR w w0 x) (b : Bool) : (w0.setCell ⟨w.heap.size + 1, 0, none⟩ (.bool b)).cell? ⟨w.heap.size + 1, 0, none⟩ = some (.bool b) ∧ Below w.heap.size w (w0.setCell ⟨w.heap.size + 1, 0, none⟩ (.bool b)) := by
  refine ⟨?_, h.bel.setCell (p := ⟨w.heap.size + 1, 0, none⟩) (by show w.heap.size ≤ w.heap.size + 1; omega) _⟩
  have : (w0.setCell ⟨w.heap.size + 1, 0, none⟩ (.bool b)).heap[w.heap.size + 1]? = some (.cells #[.bool b] 4 (0, 0)) := by
    rw [setCell_eq_setRow _ _ 0 _ _ _ _ h.res]
    exact setRow_heap _ _ _ _ _ _ h.res
  rw [cell_of_row _ _ _ _ _ _ this]
  rfl

theorem values_stops (n : Nat) (hn : 1 ≤ n) (Bs n₀ : Nat) (a : Option Addr) (c : Nat) (l : List S2) (hlen : l.length ≤ 1000000) (hBn : Bs < n₀) (hlt : ∀ b off, a = some ⟨b, off, none⟩ → b < n₀) (w : World) (hnw : n₀ ≤ w.heap.size)
    (hBs : w.cell? ⟨Bs, 0, none⟩ = some (.slice a l.length c)) (hs : SpotsAt w a l) :
    SeqStopsK Fence.wide n Try.prog 41 #[.pointer (some ⟨Bs, 0, none⟩)] (fun s : S2 => #[.agg #[.int .i64 s.o, .int .i64 s.p]]) (Below n₀) (fun xs => xs = l) (fun pre => ∃ k, k ≤ l.length ∧ pre = l.take k) l.length w :=
  fun l0 J Jx W hW hJ hJx hY h0 => values1_in n hn l0 Bs n₀ a c l hlen hBn hlt J Jx hY W (Nat.le_trans hnw hW.size) hJ ((hW.cell (p := ⟨Bs, 0, none⟩) (Nat.lt_of_lt_of_le hBn hnw)).trans hBs) (hs.below hW (Nat.le_refl _)) h0
theorem block_kept {W W' : World} {row : Option Nat} {B : Nat} {cs : Array Value} {T : TypeId} (h : W.heap[B]? = some (.cells cs T (0, 0))) (hg : W.grownBy W' row) (hr : ∀ r, row = some r → ∃ o : Obj, W.heap[r]? = some o ∧ o.isCells = false) : W'.heap[B]? = some (.cells cs T (0, 0)) :=
  (hg.block B (Array.getElem?_eq_some_iff.1 h).1 (fun e => by obtain ⟨o, ho, hc⟩ := hr B e.symm; rw [h] at ho; cases ho; cases hc)).trans h
/-- a round's frame: the loop's variable in a box of its own -/
def AxB (n₀ : Nat) (frm : S2 → Nat → Act) (s : S2) (a' : Act) (W : World) : Prop := ∃ Bx, n₀ < Bx ∧ W.heap[Bx]? = some (.cells #[.int .i64 s.o, .int .i64 s.p] 31 (0, 0)) ∧ a' = frm s Bx
theorem AxB.own (B n₀ : Nat) (frm : S2 → Nat → Act) (s : S2) (a' : Act) : OwnFrom B (fun (_ : Unit) W => AxB n₀ frm s a' W) := fun _ X Y row hs hg hr => by
  obtain ⟨Bx, h1, h2, h3⟩ := hs
  exact ⟨Bx, h1, block_kept h2 hg (fun r e => (hr r e).2), h3⟩
theorem ahead_snoc (x : Int) (l : List S2) (s : S2) : aheadL x (l ++ [s]) = if s.p < x then aheadL x l ++ [s] else aheadL x l := by
  unfold aheadL
  rw [List.filter_append]
  by_cases h : s.p < x <;> simp [h]

/-- what the tail keeps: the result's box, the two deferred blocks, some cells -/
structure TF (w : World) (D1 D2 : Nat) (cs : List (Nat × Nat × Value)) (w' : World) : Prop where
  bel : Below w.heap.size w w'
  res : ∃ b, w'.heap[w.heap.size + 1]? = some (.cells #[.bool b] 4 (0, 0))
  d1 : w'.heap[D1]? = some (.deferred (some []))
  d2 : w'.heap[D2]? = some (.deferred (some []))
  l1 : w.heap.size + 1 < D1
  l2 : D1 < D2
  cells : ∀ p, p ∈ cs → p.1 ≠ w.heap.size + 1 ∧ p.1 < w'.heap.size ∧ w'.cell? ⟨p.1, p.2.1, none⟩ = some p.2.2
theorem TF.drew {w w' : World} {D1 D2 : Nat} {cs : List (Nat × Nat × Value)} (h : TF w D1 D2 cs w') : TF w D1 D2 cs w'.drew :=
  ⟨belowDrewN h.bel 1, h.res, h.d1, h.d2, h.l1, h.l2, h.cells⟩
theorem TF.call {w w' w2 : World} {D1 D2 : Nat} {cs : List (Nat × Nat × Value)} (h : TF w D1 D2 cs w') (hB : Below w'.heap.size w' w2) : TF w D1 D2 cs w2 := by
  obtain ⟨b, hb⟩ := h.res
  exact ⟨h.bel.trans (hB.mono h.bel.size), ⟨b, (hB.block _ (Array.getElem?_eq_some_iff.1 hb).1).trans hb⟩, (hB.block _ (Array.getElem?_eq_some_iff.1 h.d1).1).trans h.d1, (hB.block _ (Array.getElem?_eq_some_iff.1 h.d2).1).trans h.d2, h.l1, h.l2,
    fun p hp => ⟨(h.cells p hp).1, Nat.lt_of_lt_of_le (h.cells p hp).2.1 hB.size, (hB.cell (p := ⟨p.1, p.2.1, none⟩) (h.cells p hp).2.1).trans (h.cells p hp).2.2⟩⟩
theorem TF.set {w w' : World} {D1 D2 : Nat} {cs : List (Nat × Nat × Value)} (h : TF w D1 D2 cs w') (b : Bool) :
    TF w D1 D2 cs (w'.setCell ⟨w.heap.size + 1, 0, none⟩ (.bool b)) ∧ (w'.setCell ⟨w.heap.size + 1, 0, none⟩ (.bool b)).heap[w.heap.size + 1]? = some (.cells #[.bool b] 4 (0, 0)) := by
  obtain ⟨b0, hb⟩ := h.res
  have e : (w'.setCell ⟨w.heap.size + 1, 0, none⟩ (.bool b)).heap[w.heap.size + 1]? = some (.cells #[.bool b] 4 (0, 0)) := by
    rw [setCell_eq_setRow _ _ 0 _ _ _ _ hb]
    exact setRow_heap _ _ _ _ _ _ hb
  have o : ∀ k, k ≠ w.heap.size + 1 → (w'.setCell ⟨w.heap.size + 1, 0, none⟩ (.bool b)).heap[k]? = w'.heap[k]? := fun k hk => Below.heap_setCell _ _ _ k hk
  have z : (w'.setCell ⟨w.heap.size + 1, 0, none⟩ (.bool b)).heap.size = w'.heap.size := by rw [setCell_eq_setRow _ _ 0 _ _ _ _ hb]; simp
  refine ⟨⟨h.bel.setCell (p := ⟨w.heap.size + 1, 0, none⟩) (by show w.heap.size ≤ w.heap.size + 1; omega) _, ⟨b, e⟩, (o D1 (by have := h.l1; omega)).trans h.d1, (o D2 (by have := h.l1; have := h.l2; omega)).trans h.d2, h.l1, h.l2, fun p hp => ⟨(h.cells p hp).1, by rw [z]; exact (h.cells p hp).2.1, ?_⟩⟩, e⟩
  rw [← (h.cells p hp).2.2]
  unfold World.cell?
  rw [o p.1 (h.cells p hp).1]
theorem TF.frozen {w w' : World} {D1 D2 : Nat} {cs : List (Nat × Nat × Value)} (h : TF w D1 D2 cs w') : w'.frozen? ⟨w.heap.size + 1, 0, none⟩ = false := by
  obtain ⟨b, hb⟩ := h.res
  exact frozen_of_row _ _ _ _ _ hb
theorem TF.rcell {w w' : World} {D1 D2 : Nat} {cs : List (Nat × Nat × Value)} (h : TF w D1 D2 cs w') : ∃ b, w'.cell? ⟨w.heap.size + 1, 0, none⟩ = some (.bool b) ∧ w'.frozen? ⟨w.heap.size + 1, 0, none⟩ = false := by
  obtain ⟨b, hb⟩ := h.res
  exact ⟨b, by rw [cell_of_row _ _ _ _ _ _ hb]; rfl, frozen_of_row _ _ _ _ _ hb⟩
theorem TF.alloc {w w' : World} {D1 D2 : Nat} {cs : List (Nat × Nat × Value)} (h : TF w D1 D2 cs w') (o : Obj) : TF w D1 D2 cs (w'.alloc o) := h.call ((Below.refl _ _).alloc (Nat.le_refl _) _)
theorem TF.get {w w' : World} {D1 D2 : Nat} {cs : List (Nat × Nat × Value)} (h : TF w D1 D2 cs w') {b o : Nat} {v : Value} (hm : (b, o, v) ∈ cs) : w'.cell? ⟨b, o, none⟩ = some v := (h.cells _ hm).2.2
theorem TF.cons {w w' : World} {D1 D2 : Nat} {cs : List (Nat × Nat × Value)} (h : TF w D1 D2 cs w') {b o : Nat} {v : Value} (h1 : b ≠ w.heap.size + 1) (h2 : b < w'.heap.size) (h3 : w'.cell? ⟨b, o, none⟩ = some v) : TF w D1 D2 ((b, o, v) :: cs) w' :=
  ⟨h.bel, h.res, h.d1, h.d2, h.l1, h.l2, fun p hp => by
    rcases List.mem_cons.1 hp with rfl | hp
    · exact ⟨h1, h2, h3⟩
    · exact h.cells p hp⟩
theorem TF.s6 {w w' : World} {D1 D2 b0 o0 b1 o1 b2 o2 b3 o3 b4 o4 b5 o5 : Nat} {v0 v1 v2 v3 v4 v5 : Value} (h : TF w D1 D2 [(b0, o0, v0), (b1, o1, v1), (b2, o2, v2), (b3, o3, v3), (b4, o4, v4), (b5, o5, v5)] w') :
    w'.cell? ⟨b0, o0, none⟩ = some v0 ∧ w'.cell? ⟨b1, o1, none⟩ = some v1 ∧ w'.cell? ⟨b2, o2, none⟩ = some v2 ∧ w'.cell? ⟨b3, o3, none⟩ = some v3 ∧ w'.cell? ⟨b4, o4, none⟩ = some v4 ∧ w'.cell? ⟨b5, o5, none⟩ = some v5 :=
  ⟨h.get (by simp), h.get (by simp), h.get (by simp), h.get (by simp), h.get (by simp), h.get (by simp)⟩
theorem TF.s2 {w w' : World} {D1 D2 b0 o0 b1 o1 : Nat} {v0 v1 : Value} (h : TF w D1 D2 [(b0, o0, v0), (b1, o1, v1)] w') : w'.cell? ⟨b0, o0, none⟩ = some v0 ∧ w'.cell? ⟨b1, o1, none⟩ = some v1 :=
  ⟨h.get (by simp), h.get (by simp)⟩
/-- the two deferred blocks taken: the result stays -/
theorem TF.ends {w w' : World} {D1 D2 : Nat} {cs : List (Nat × Nat × Value)} (h : TF w D1 D2 cs w') (b : Bool) (hr : w'.heap[w.heap.size + 1]? = some (.cells #[.bool b] 4 (0, 0))) :
    ((w'.putObj D2 (.deferred none)).putObj D1 (.deferred none)).cell? ⟨w.heap.size + 1, 0, none⟩ = some (.bool b) ∧ Below w.heap.size w ((w'.putObj D2 (.deferred none)).putObj D1 (.deferred none)) ∧ (w'.putObj D2 (.deferred none)).heap[D1]? = some (.deferred (some [])) := by
  have l1 := h.l1
  have l2 := h.l2
  refine ⟨?_, ?_, ?_⟩
  · have e : ((w'.putObj D2 (.deferred none)).putObj D1 (.deferred none)).heap[w.heap.size + 1]? = some (.cells #[.bool b] 4 (0, 0)) :=
      (World.putObj_heap_other (by omega)).trans ((World.putObj_heap_other (by omega)).trans hr)
    rw [cell_of_row _ _ _ _ _ _ e]
    rfl
  · have s1 : w.heap.size ≤ w'.heap.size := h.bel.size
    have g1 : Below w.heap.size w' (w'.putObj D2 (.deferred none)) := (Below.refl w.heap.size _).grown (grownBy_putObj' _ D2 (.deferred none)) s1 (by intro k e; cases e; have := h.l2; omega)
    have g2 : Below w.heap.size (w'.putObj D2 (.deferred none)) ((w'.putObj D2 (.deferred none)).putObj D1 (.deferred none)) := (Below.refl w.heap.size _).grown (grownBy_putObj' _ D1 (.deferred none)) (Nat.le_trans s1 g1.size) (by intro k e; cases e; omega)
    exact h.bel.trans (g1.trans g2)
  · exact (World.putObj_heap_other (by omega)).trans h.d1

attribute [local go_sem] Oper.semAt_some

set_option maxRecDepth 100000 in
set_option maxHeartbeats 8000000 in
theorem cuts_walk (st : Int) (a : Option Addr) (n c : Nat) (sz : Nat → Nat) (x : Int) (w : World) (hn : n ≤ 9223372036854775807) (hsz : ∀ i, i < n → sz i < 65536) (hs : CellsAt w a n (fun j => .int .u16 (sz j : Nat))) :
    Calls Try.prog 3 #[.int .i64 st, .slice a n c, .int .i64 x] w fun e w' => e = .returned (.bool true) ∧ Below w.heap.size w w' := by
  obtain ⟨w0, hw0⟩ : ∃ w0, w0 = (w.alloc (.cells #[.int .i64 x] 3)).alloc (.cells #[.bool false] 4) := ⟨_, rfl⟩
  have HP : Hid (PR w w0 x) := hide (by rw [hw0]; exact PR.new w x)
  refine (callsIn_wide (n := 4)).1 ?_
  refine callsIn_of_wp_marks Try.func3 rfl trivial ?_
  simp only [Try.ntmps3, List.size_toArray, List.length_cons, List.length_nil, Nat.reduceAdd, Nat.reduceSub, Array.replicate_succ, Array.replicate_zero, List.push_toArray, List.append_toArray, List.nil_append, List.cons_append]
  by_cases h300 : 300 < n
  · as_aux_lemma =>
      have d1 : decide ((300 : Int) < (n : Int)) = true := decide_eq_true (by omega)
      have d1' : decide (300 < n) = true := decide_eq_true h300
      clear hs hsz hn h300
      gi_wp2_with fail
      rw [← hw0]
      clear hw0
      refine ⟨trivial, (callsIn_wide.2 (known_ok w0)).mono ?_⟩
      rintro e w1 ⟨rfl, hB⟩
      have HP1 := hide (HP.out.call hB)
      clear hB
      obtain ⟨r0, r1⟩ := HP1.out.rcell
      obtain ⟨s0, s1⟩ := HP1.out.set true
      have HB := hide s1
      clear s1
      gi_wp2_with fail
      exact ⟨.bool true, (by simp [results, Try.results3, go_sem, s0]), rfl, HB.out⟩
  have d1 : decide ((300 : Int) < (n : Int)) = false := decide_eq_false (by omega)
  have d1' : decide (300 < n) = false := decide_eq_false h300
  have HN3 := hide h300
  by_cases hst : st < 1 ∨ 16777216 < st
  · as_aux_lemma =>
      clear hs hsz hn h300
      gi_wp2_with fail
      rw [← hw0]
      clear hw0
      refine ⟨trivial, (callsIn_wide.2 (New_no st hst w0)).mono ?_⟩
      rintro e w' ⟨rfl, rfl⟩
      clear hst
      gi_wp2_with fail
      refine ⟨trivial, (callsIn_wide.2 (known_ok w0)).mono ?_⟩
      rintro e w1 ⟨rfl, hB⟩
      have HP1 := hide (HP.out.call hB)
      clear hB
      obtain ⟨r0, r1⟩ := HP1.out.rcell
      obtain ⟨s0, s1⟩ := HP1.out.set true
      have HB := hide s1
      clear s1
      gi_wp2_with fail
      exact ⟨.bool true, (by simp [results, Try.results3, go_sem, s0]), rfl, HB.out⟩
  have hst1 : 1 ≤ st := by omega
  have hst2 : st ≤ 16777216 := by omega
  have HST : Hid (st ≠ 0) := hide (by omega)
  have K0 := hide (KSt.new (Below.refl w0.heap.size w0) st)
  have HADD := hide (fun (k : Nat) (wc : World) (hk : k ≤ 300) (h : KSt w0 wc w0.heap.size st (cutsL st sz k)) => Add_k h HST.out (by have := (cutsL_inv st sz k).len; omega) cuts_lo ⟨(k : Nat), (cutsAt sz k : Nat)⟩)
  have HMAY := hide (fun (k : Nat) (hk : k ≤ 300) (hat : cutsAt sz k ≤ 16777216) => cuts_may (st := st) hk hat)
  have HSUC : Hid (∀ k, cutsL st sz (k + 1) = addL st (cutsL st sz k) ⟨(k : Nat), (cutsAt sz k : Nat)⟩) := hide (fun k => rfl)
  have HINV := hide (cutsL_inv st sz)
  have HAT : Hid (∀ k, cutsAt sz (k + 1) = cutsAt sz k + sz k + 1) := hide (fun k => rfl)
  have HAT0 : Hid (cutsAt sz 0 = 0) := hide rfl
  have HS := hide hs
  have HSZ := hide hsz
  clear hst hs hsz h300
  unfold spotV at HADD
  gi_wp2_with fail
  rw [← hw0]
  clear hw0 d1 d1'
  refine ⟨trivial, (callsIn_wide.2 (New_ok st hst1 hst2 w0)).mono ?_⟩
  rintro e w1 ⟨rfl, rfl⟩
  gi_wp2_with fail
  gi_loopw [9, 10] (fun p i wr => ∃ k : Nat, k ≤ n ∧ i = .int .i64 k ∧ p = .int .i64 (cutsAt sz k : Nat) ∧ cutsAt sz k ≤ 16842752 ∧ Hid (KSt w0 wr w0.heap.size st (cutsL st sz k))) (fun _ i _ => n - (intOf i).toNat)
  case atStart => exact ⟨0, Nat.zero_le _, rfl, by rw [HAT0.out]; rfl, by rw [HAT0.out]; omega, K0⟩
  case round =>
    obtain ⟨k, hk, rfl, rfl, hat, HK⟩ := hrel
    by_cases hgo : k < n ∧ cutsAt sz k ≤ 16777216
    · as_aux_lemma =>
        obtain ⟨hlt, hat2⟩ := hgo
        have d1 : decide ((k : Int) < (n : Int)) = true := decide_eq_true (by omega)
        have d1' : decide (k < n) = true := decide_eq_true hlt
        have d2 : decide (((cutsAt sz k : Nat) : Int) ≤ 16777216) = true := decide_eq_true (by omega)
        have d2' : decide (cutsAt sz k ≤ 16777216) = true := decide_eq_true hat2
        have HA := hide (HADD.out k wr (by have := HN3.out; omega) HK.out)
        rw [HMAY.out k (by have := HN3.out; omega) hat2, ← HSUC.out k] at HA
        have hsk := HSZ.out k hlt
        have hak := HAT.out k
        have HJ := hide hlt
        have HC := hide (fun (w' : World) (hB : Below w0.heap.size w0 w') => (HS.out.below (HP.out.call hB).bel (Nat.le_refl _)) k hlt)
        have hi1 : (k : Int) < (n : Int) := by omega
        obtain ⟨q, hq⟩ : ∃ q, q = cutsAt sz k := ⟨_, rfl⟩
        have HQ := hide hq
        rw [← hq] at hat hat2 d2 d2' HA hak ⊢
        obtain ⟨bb, hbb⟩ : ∃ bb, bb = addB st (cutsL st sz k) ⟨(k : Nat), (q : Nat)⟩ := ⟨_, rfl⟩
        rw [← hbb] at HA
        have hw1 : IntKind.i64.wrap ((q : Int) + (sz k : Int)) = (q : Int) + (sz k : Int) := by rw [IntKind.wrap_i64]; omega
        have hw2 : IntKind.i64.wrap ((q : Int) + (sz k : Int) + 1) = (q : Int) + (sz k : Int) + 1 := by rw [IntKind.wrap_i64]; omega
        have hcv : IntKind.i64.wrap (sz k : Int) = (sz k : Int) := by rw [IntKind.wrap_i64]; omega
        have HAK := hide hak
        have HLE := hide hat2
        clear hq hbb hat hat2 hak hlt
        gi_wp2_with fail
        refine ⟨trivial, (callsIn_wide.2 HA.out).mono ?_⟩
        rintro e w2 ⟨rfl, hK2⟩
        have HK2 := hide hK2
        obtain ⟨b2, o2, rfl, cc⟩ := HC.out w2 hK2.bel
        clear hK2
        gi_wp2_with fail
        go_roundw
        case rel => exact ⟨k + 1, by have := HJ.out; omega, by go_num, by rw [HAK.out]; simp, by rw [HAK.out]; have := HLE.out; omega, HK2⟩
        case measure => have := HJ.out; simp [intOf]; omega
    · by_cases hlt : k < n
      · as_aux_lemma =>
          have hat2 : ¬ cutsAt sz k ≤ 16777216 := fun h => hgo ⟨hlt, h⟩
          have d1 : decide ((k : Int) < (n : Int)) = true := decide_eq_true (by omega)
          have d1' : decide (k < n) = true := decide_eq_true hlt
          have d2 : decide (((cutsAt sz k : Nat) : Int) ≤ 16777216) = false := decide_eq_false (by omega)
          have d2' : decide (cutsAt sz k ≤ 16777216) = false := decide_eq_false hat2
          clear hgo hat2 hlt hat
          have hk300 : k ≤ 300 := by have := HN3.out; omega
          have hinv := HINV.out k
          have HR := hide hinv.rise
          have HLEN : Hid ((cutsL st sz k).length ≤ 300) := hide (by have := hinv.len; omega)
          have HOFF : Hid (∀ a, a < (cutsL st sz k).length → ((cutsL st sz k).getD a default).o ≤ 9007199254740992) := hide (fun a ha => by have := hinv.bnd a ha; omega)
          have HK2 := hide HK.out
          clear hinv HADD HMAY HSUC HINV HAT HAT0 HS HSZ HK
          generalize cutsL st sz k = L at *
          generalize cutsAt sz k = q at *
          have hle : cutN x L ≤ L.length := firstT_le _ L
          obtain ⟨vx, hvx⟩ := HK2.out.ix
          have HVX := hide hvx
          clear hvx
          gi_wp2_with fail
          refine ⟨trivial, (callsIn_wide.2 (Copy_ok HVX.out HST.out (by have := HLEN.out; omega))).mono ?_⟩
          rintro e w1 ⟨g2, v2, rfl, ho, hg2, hB⟩
          have HO := hide ho
          have HB1 := hide hB
          have HG2 := hide hg2
          have HP1 := hide (HP.out.call (HK2.out.bel.trans (hB.mono HK2.out.bel.size)))
          clear ho hg2 hB
          have c0 := HP1.out.cell
          gi_wp2_with fail
          refine ⟨trivial, (callsIn_wide.2 (Cut_ok x HO.out HST.out (by have := HLEN.out; omega) HB1.out.size (rising_cut HR.out x))).mono ?_⟩
          rintro e w2 ⟨v3, rfl, ho2, hkx, hob⟩
          have hBW := hkx.below HB1.out HB1.out.size HG2.out (own_lt HO.out.own)
          obtain ⟨M, hM⟩ : ∃ M, M = L.take (cutN x L) := ⟨_, rfl⟩
          rw [← hM] at ho2
          have HX2 : Hid (XO w0 w2 w0.heap.size g2 wr.heap.size st L M) := hide ⟨HK2.out.bel.trans (hBW.mono HK2.out.bel.size), ⟨vx, HVX.out.call hBW⟩, ⟨v3, ho2⟩⟩
          have HM := hide hM
          have HML : Hid (M.length = cutN x L) := hide (by rw [hM, List.length_take]; omega)
          have HMC : Hid ((L.length : Int) - (cutN x L : Nat) = (L.length : Int) - (M.length : Nat)) := hide (by rw [HML.out])
          rw [HMC.out]
          clear hkx hob hBW hM ho2 HO HB1 HG2 HP1 HVX c0 HK2
          obtain ⟨ux, hux⟩ := HX2.out.x
          gi_wp2_with fail
          refine ⟨trivial, (callsIn_wide.2 (All_ok hux HST.out (by have := HLEN.out; omega))).mono ?_⟩
          clear hux
          rintro e w3 ⟨B1, a1, c1, rfl, hc1, hs1, hl1, hu1, ha1, hB⟩
          have HX3 := hide (HX2.out.call hB)
          have HA1 := hide (And.intro hc1 (And.intro hs1 (And.intro hu1 ha1)))
          clear hc1 hs1 hl1 hu1 ha1 hB
          obtain ⟨uo, huo⟩ := HX3.out.o
          gi_wp2_with fail
          refine ⟨trivial, (callsIn_wide.2 (All_ok huo HST.out (by rw [HML.out]; have := HLEN.out; omega))).mono ?_⟩
          clear huo
          rintro e w4 ⟨B2, a2, c2, rfl, hc2, hs2, hl2, hu2, ha2, hB⟩
          have HX4 := hide (HX3.out.call hB)
          have HA2 := hide (And.intro hc2 (And.intro hs2 (And.intro hu2 ha2)))
          have HA3 := hide (And.intro ((hB.cell (p := ⟨B1, 0, none⟩) HA1.out.2.2.1).trans HA1.out.1) (And.intro (HA1.out.2.1.below hB (Nat.le_refl _)) (And.intro (Nat.lt_of_lt_of_le HA1.out.2.2.1 hB.size) (fun b off e => Nat.lt_of_lt_of_le (HA1.out.2.2.2 b off e) hB.size))))
          clear hc2 hs2 hl2 hu2 ha2 hB HA1
          have hnil1 : ∀ w : World, (binOp BinOp.eql 36 (.func (.func 41) #[] #[.pointer (some ⟨B1, 0, none⟩)]) .nilFunc).run Try.prog w = .ok (.bool false) w := fun _ => by kernel_rfl
          have hnil2 : ∀ w : World, (binOp BinOp.eql 36 (.func (.func 41) #[] #[.pointer (some ⟨B2, 0, none⟩)]) .nilFunc).run Try.prog w = .ok (.bool false) w := fun _ => by kernel_rfl
          obtain ⟨ux, hux⟩ := HX4.out.x
          obtain ⟨uo, huo⟩ := HX4.out.o
          have HLX := hide (Len_ok hux HST.out)
          have HLO := hide (Len_ok huo HST.out)
          clear hux huo
          have hll : M.length ≤ L.length := by rw [HML.out]; exact hle
          have hlb : L.length ≤ 300 := HLEN.out
          have hw9 : IntKind.i64.wrap ((L.length : Int) - (M.length : Int)) = (L.length : Int) - (M.length : Int) := by rw [IntKind.wrap_i64]; omega
          have hq9 : ((L.length : Int) - (M.length : Int) != (L.length : Int) - (M.length : Int)) = false := by simp
          have HLL := hide hll
          clear hll hlb hle
          gi_wp2_with fail
          refine ⟨trivial, (callsIn_wide.2 HLX.out).mono ?_⟩
          rintro e w' ⟨rfl, rfl⟩
          gi_wp2_with fail
          refine ⟨trivial, (callsIn_wide.2 HLO.out).mono ?_⟩
          rintro e w' ⟨rfl, rfl⟩
          clear HLX HLO
          gi_wp2_with fail
          obtain ⟨W0, hW0⟩ : ∃ W0, W0 = w4.alloc (.cells #[.slice none 0 0] 39) := ⟨_, rfl⟩
          have hsz : W0.heap.size = w4.heap.size + 1 := by rw [hW0]; simp
          have hB40 : Below w4.heap.size w4 W0 := by rw [hW0]; exact (Below.refl _ _).alloc (Nat.le_refl _) _
          have bS : Boxed W0 w4.heap.size 39 (.slice none 0 0) := by rw [hW0]; exact Boxed.new _ _ _
          rw [← hW0]
          clear hW0
          have HP4 := hide (HP.out.call HX4.out.bel)
          obtain ⟨i0, hi, hz0, hz1, hz2⟩ := info_spot
          have hL1 : L.length ≤ 1000000 := by have := HLEN.out; omega
          have hM1 : M.length ≤ 1000000 := by have := HLEN.out; have := HLL.out; omega
          refine wpIn_rangeFunc_ownH rfl (by omega) (gf := 41) (lb := #[.pointer (some ⟨B1, 0, none⟩)]) rfl trivial (enters_of Try.func41 (by kernel_rfl) rfl)
            (values_stops 3 (by omega) B1 w4.heap.size a1 c1 L hL1 HA3.out.2.2.1 HA3.out.2.2.2 W0 (by omega) ((hB40.cell (p := ⟨B1, 0, none⟩) HA3.out.2.2.1).trans HA3.out.1) (HA3.out.2.1.below hB40 (Nat.le_refl _)))
            belowK_t (belowK_b (by omega)) (Below.refl _ _) (fun _ => rfl)
            (fun pre W => (∃ v, Boxed W w4.heap.size 39 v ∧ W.ownsRow w4.heap.size 31 2 v (aheadL x pre).length (spotCells (aheadL x pre)) ∧ True) ∧ Below w4.heap.size w4 W)
            (fun _ _ _ => False)
            (OwnFrom.and (Own.from (holdsRow_own w4.heap.size w4.heap.size 39 31 2 (fun pre => (aheadL x pre).length) (fun pre => spotCells (aheadL x pre)) (fun _ _ => True)) _) (ownFrom_below (Nat.le_refl _) (by omega)))
            (fun _ _ _ _ _ hs _ _ => hs)
            ⟨⟨_, bS, ⟨rfl, .inl ⟨rfl, rfl⟩⟩, trivial⟩, hB40⟩
            (AxB w4.heap.size ?frm) (AxB.own _ _ _)
            ?assign ?body ?done ?stop
          case assign =>
            rintro l pre s W K ⟨⟨v, hv1, hv2, _⟩, hB⟩ hK
            obtain ⟨so, hso⟩ : ∃ y, y = s.o := ⟨_, rfl⟩
            gi_wp2
            have hlt := hv1.lt
            have hnb := heap_alloc_new W (.cells #[.int .i64 s.o, .int .i64 s.p] 31)
            have hK' := hK
            refine hK _ _ ((KeepsOthers.alloc _ _).from _) ((Below.refl _ W).alloc hB.size _) ⟨⟨v, hv1.alloc _, kept_below2 hv2 ((Below.refl _ _).alloc (Nat.le_refl _) _), trivial⟩, hB.alloc hB.size _⟩ ⟨W.heap.size, hlt, hnb, ?_⟩
            generalize W.heap.size = Bx
            rfl
          case body =>
            rintro l pre s a' W hl ⟨r, hr⟩ ⟨⟨v, hv, hrow, _⟩, hB⟩ ⟨Bx, hBx, bX, rfl⟩ hlt
            dsimp only
            have x0 : W.cell? ⟨Bx, 0, none⟩ = some (.int .i64 s.o) := by rw [cell_of_row _ _ _ _ _ _ bX]; rfl
            have x1 : W.cell? ⟨Bx, 1, none⟩ = some (.int .i64 s.p) := by rw [cell_of_row _ _ _ _ _ _ bX]; rfl
            have c0 := (HP4.out.call hB).cell
            have hal : (aheadL x pre).length ≤ pre.length := List.length_filter_le _ _
            have hn1 : (aheadL x pre).length + 1 ≤ 1000000 := by omega
            have hsn := ahead_snoc x pre s
            obtain ⟨ao, cap, rfl, _⟩ := OwnSpots.any hrow
            have cS := hv.cell
            by_cases hp : s.p < x
            · have q1 : decide (s.p < x) = true := decide_eq_true hp
              rw [if_pos hp] at hsn
              have HSN := hide hsn
              clear hsn hp
              gi_wp2_with (gi_at_builtin; refine wpListIn_append_own _ rfl _ _ 39 rfl w4.heap.size 31 i0 (.agg #[.int .i64 0, .int .i64 0]) 2 16 Try.underlying39 hi hz0 hz1 hz2 rfl (by decide) _ _ _ rfl (hrow.alloc _) ⟨W.heap.size, 0, none⟩ 1 1 [.int .i64 s.o, .int .i64 s.p] rfl rfl (World.news_of_block (heap_alloc_new W (.cells #[.int .i64 s.o, .int .i64 s.p] 31))) (by intro u hu; simp at hu; rcases hu with rfl | rfl <;> rfl) (by unfold maxLen; omega) (by omega) (by have := hB.size; simp; omega) ?_; intro v' w1 hown' hgrow _; obtain ⟨g', cap', rfl⟩ := ownsRow_succ hown'; obtain ⟨hv1, hv2, hr2, hk2, hb2⟩ := hv.appended (by decide) hrow hB.size (Nat.le_refl _) hown' hgrow; have hc1 := hv1.cell; have hf1 := hv1.frozen)
              exact ⟨hk2.from _, hb2, ⟨_, hv2, by rw [HSN.out, List.length_append, List.length_singleton, spotCells_append]; exact hr2, trivial⟩, hB.trans hb2⟩
            · have q1 : decide (s.p < x) = false := decide_eq_false hp
              rw [if_neg hp] at hsn
              have HSN := hide hsn
              clear hsn hp
              gi_wp2
              exact ⟨KeepsFrom.refl _ _, Below.refl _ _, ⟨_, hv, by rw [HSN.out]; exact hrow, trivial⟩, hB⟩
          case stop => exact fun D c pre W _ _ hf _ => hf.elim
          case done =>
            rintro D1 xs W hD hxs ⟨⟨v, hv, hrow, _⟩, hB⟩ hK
            rw [hxs, ahead_take HR.out x, ← HM.out] at hrow
            clear hxs
            obtain ⟨aS, cS, rfl, _, _, hsS, hatS⟩ := OwnSpots.any hrow
            have HXW := hide (HX4.out.call hB)
            have HPW := hide (HP4.out.call hB)
            have HK1 := hide hK
            have HCS := hide hv
            have HSS := hide hsS
            have HA2W := hide (And.intro ((hB.cell (p := ⟨B2, 0, none⟩) HA2.out.2.2.1).trans HA2.out.1) (And.intro (HA2.out.2.1.below hB (Nat.le_refl _)) (And.intro (Nat.lt_of_lt_of_le HA2.out.2.2.1 hB.size) (fun b off e => Nat.lt_of_lt_of_le (HA2.out.2.2.2 b off e) hB.size))))
            have HSW : Hid (w4.heap.size < W.heap.size) := hide hv.lt
            have HD1 : Hid (w.heap.size + 1 < D1) := hide (by have h1 := (Array.getElem?_eq_some_iff.1 HP4.out.res).1; omega)
            have HW4 : Hid (w.heap.size + 1 < w4.heap.size) := hide (Array.getElem?_eq_some_iff.1 HP4.out.res).1
            clear hv hrow hsS hatS hB hK hD bS hB40 hsz HP4 HX4 HA2 HA3
            gi_wp2_with fail
            obtain ⟨W1, hW1⟩ : ∃ W1, W1 = W.alloc (.cells #[.int .i64 0] 3) := ⟨_, rfl⟩
            have hsz : W1.heap.size = W.heap.size + 1 := by rw [hW1]; simp
            have hB1 : Below W.heap.size W W1 := by rw [hW1]; exact (Below.refl _ _).alloc (Nat.le_refl _) _
            have bK : Boxed W1 W.heap.size 3 (.int .i64 0) := by rw [hW1]; exact Boxed.new _ _ _
            rw [← hW1]
            clear hW1
            refine wpIn_rangeFunc_ownH rfl (by omega) (gf := 41) (lb := #[.pointer (some ⟨B2, 0, none⟩)]) rfl trivial (enters_of Try.func41 (by kernel_rfl) rfl)
              (values_stops 3 (by omega) B2 W.heap.size a2 c2 M hM1 HA2W.out.2.2.1 HA2W.out.2.2.2 W1 (by omega) ((hB1.cell (p := ⟨B2, 0, none⟩) HA2W.out.2.2.1).trans HA2W.out.1) (HA2W.out.2.1.below hB1 (Nat.le_refl _)))
              belowK_t (belowK_b (by omega)) (Below.refl _ _) (fun _ => rfl)
              (fun pre W' => Boxed W' W.heap.size 3 (.int .i64 (pre.length : Nat)) ∧ Below W.heap.size W W')
              (fun c pre W' => c = .ret ∧ ∃ j, j < pre.length ∧ pre.getD j default ≠ M.getD j default)
              (OwnFrom.and (Own.from (boxed_own W.heap.size 3 (fun pre : List S2 => .int .i64 (pre.length : Nat))) _) (ownFrom_below (Nat.le_refl _) (by omega)))
              (fun _ _ _ _ _ hs _ _ => hs)
              ⟨bK, hB1⟩
              (AxB W.heap.size ?frm2) (AxB.own _ _ _)
              ?assign2 ?body2 ?done2 ?stop2
            case assign2 =>
              rintro l pre s W2 K ⟨hb, hB⟩ hK
              gi_wp2
              have hlt := hb.lt
              have hnb := heap_alloc_new W2 (.cells #[.int .i64 s.o, .int .i64 s.p] 31)
              refine hK _ _ ((KeepsOthers.alloc _ _).from _) ((Below.refl _ W2).alloc hB.size _) ⟨hb.alloc _, hB.alloc hB.size _⟩ ⟨W2.heap.size, hlt, hnb, ?_⟩
              generalize W2.heap.size = Bx
              rfl
            case stop2 =>
              rintro D c pre W2 _ ⟨k, hk, rfl⟩ ⟨_, j, hj, hne⟩ _
              rw [List.length_take] at hj
              exact absurd (by rw [List.getD_eq_getElem?_getD, List.getElem?_take_of_lt (by omega), ← List.getD_eq_getElem?_getD]) hne
            case body2 =>
              rintro l pre s a' W2 hl ⟨r, hr⟩ ⟨hb, hB⟩ ⟨Bx, hBx, bX, rfl⟩ hlt
              dsimp only
              have x0 : W2.cell? ⟨Bx, 0, none⟩ = some (.int .i64 s.o) := by rw [cell_of_row _ _ _ _ _ _ bX]; rfl
              have x1 : W2.cell? ⟨Bx, 1, none⟩ = some (.int .i64 s.p) := by rw [cell_of_row _ _ _ _ _ _ bX]; rfl
              have ck := hb.cell
              have cs : W2.cell? ⟨w4.heap.size, 0, none⟩ = some (.slice aS M.length cS) := (hB.cell (p := ⟨w4.heap.size, 0, none⟩) HSW.out).trans HCS.out.cell
              obtain ⟨bm, om, rfl, m0, m1⟩ := (HSS.out.below hB (Nat.le_refl _)) pre.length hlt
              have q1 : decide ((M.length : Int) ≤ (pre.length : Int)) = false := decide_eq_false (by omega)
              have q1' : decide (M.length ≤ pre.length) = false := decide_eq_false (by omega)
              have hx1 : (pre.length : Int) < (M.length : Int) := by omega
              have HBB := hide hb
              have HB2 := hide hB
              have HPRE : Hid (pre.length + 1 ≤ 1000000) := hide (by omega)
              have HNE : Hid (s ≠ M.getD pre.length default → ∃ j, j < (pre ++ [s]).length ∧ (pre ++ [s]).getD j default ≠ M.getD j default) := hide (fun h => ⟨pre.length, by simp, by rw [getD_last, if_neg (by omega), if_pos rfl]; exact h⟩)
              have HRES := hide (HPW.out.call hB).rcell
              clear hb hB
              generalize M.getD pre.length default = m at *
              obtain ⟨mo, mp⟩ := m
              obtain ⟨so, sp⟩ := s
              dsimp only at *
              by_cases e1 : so = mo
              · by_cases e2 : sp = mp
                · subst e1 e2
                  gi_wp2_with fail
                  refine region_quiet_round (by kernel_rfl) (by kernel_rfl) (by kernel_rfl) ?_
                  repeat (gi_big_quiet_step (fail))
                  refine wpQuietIn_nil ?_
                  rintro w' ⟨nq, rfl⟩
                  have hw1 : IntKind.i64.wrap ((pre.length : Int) + 1) = (pre.length : Int) + 1 := by have := HPRE.out; rw [IntKind.wrap_i64]; omega
                  have ck2 : (W2.drewN nq).cell? ⟨W.heap.size, 0, none⟩ = some (.int .i64 (pre.length : Nat)) := HBB.out.cell
                  have fk2 : (W2.drewN nq).frozen? ⟨W.heap.size, 0, none⟩ = false := HBB.out.frozen
                  gi_wp2
                  refine ⟨(KeepsOthers.trans (show KeepsOthers W2 (W2.drewN nq) from ⟨Nat.le_refl _, fun _ _ h _ => h⟩) (KeepsOthers.setCell _ _ _)).from _, (belowDrewN (Below.refl W.heap.size W2) nq).setCell (p := ⟨W.heap.size, 0, none⟩) (Nat.le_refl _) _, ?_, (belowDrewN HB2.out nq).setCell (p := ⟨W.heap.size, 0, none⟩) (Nat.le_refl _) _⟩
                  have e : (((pre ++ [(⟨so, sp⟩ : S2)]).length : Nat) : Int) = (pre.length : Int) + 1 := by rw [List.length_append, List.length_singleton]; omega
                  rw [e]
                  exact (show Boxed (W2.drewN nq) W.heap.size 3 _ from HBB.out).set _
                · have q2 : (sp == mp) = false := beq_eq_false_iff_ne.2 e2
                  gi_wp2_with fail
                  refine region_quiet_round (by kernel_rfl) (by kernel_rfl) (by kernel_rfl) ?_
                  repeat (gi_big_quiet_step (fail))
                  refine wpQuietIn_nil ?_
                  rintro w' ⟨nq, rfl⟩
                  obtain ⟨r0, r1⟩ := HRES.out
                  gi_wp2
                  exact ⟨(KeepsOthers.trans (show KeepsOthers W2 (W2.drewN nq) from ⟨Nat.le_refl _, fun _ _ h _ => h⟩) (KeepsOthers.setCell _ _ _)).from _, rfl, HNE.out (fun e => by injection e with h1 h2; exact e2 h2)⟩
              · have q2 : (so == mo) = false := beq_eq_false_iff_ne.2 e1
                gi_wp2_with fail
                refine region_quiet_round (by kernel_rfl) (by kernel_rfl) (by kernel_rfl) ?_
                repeat (gi_big_quiet_step (fail))
                refine wpQuietIn_nil ?_
                rintro w' ⟨nq, rfl⟩
                obtain ⟨r0, r1⟩ := HRES.out
                gi_wp2
                exact ⟨(KeepsOthers.trans (show KeepsOthers W2 (W2.drewN nq) from ⟨Nat.le_refl _, fun _ _ h _ => h⟩) (KeepsOthers.setCell _ _ _)).from _, rfl, HNE.out (fun e => by injection e with h1 h2; exact e1 h1)⟩
            case done2 =>
              rintro D2 ys W2 hD hys ⟨hb, hB⟩ hK
              rw [hys] at hb
              clear hys
              have HX5 := hide (HXW.out.call hB)
              have HRM : Hid (Rising M) := hide (by rw [HM.out]; exact HR.out.take _)
              obtain ⟨uo, huo⟩ := HX5.out.o
              have HF := hide (Find_ok 9007199254740992 huo HST.out (by omega) HRM.out.mono)
              have hft : firstT (fun s => decide (9007199254740992 < s.o)) M = M.length := lastR_all (fun a ha => by
                have h1 : cutN x L ≤ L.length := firstT_le _ L
                rw [HM.out, List.length_take] at ha
                rw [HM.out, List.getD_eq_getElem?_getD, List.getElem?_take_of_lt (by omega), ← List.getD_eq_getElem?_getD]
                exact HOFF.out a (by omega))
              unfold lastR lastB spotV at HF
              rw [hft] at HF
              have HBK := hide hb
              have HCST : Hid (W2.cell? ⟨w4.heap.size, 0, none⟩ = some (.slice aS M.length cS)) := hide ((hB.cell (p := ⟨w4.heap.size, 0, none⟩) HSW.out).trans HCS.out.cell)
              have HSP := hide (HSS.out.below hB (Nat.le_refl _))
              have HPR := hide (HPW.out.call hB)
              have HKD1 := hide ((hB.block D1 (Array.getElem?_eq_some_iff.1 HK1.out).1).trans HK1.out)
              have HKD2 := hide hK
              have HD2 : Hid (D1 < D2) := hide (by have h1 := (Array.getElem?_eq_some_iff.1 HK1.out).1; omega)
              clear hb hB hK huo hft hD
              by_cases hz : M.length = 0
              · as_aux_lemma =>
                  rw [if_pos hz, decide_eq_true hz] at HF
                  rw [hz] at HBK HCST
                  gi_wp2_with fail
                  refine ⟨trivial, (callsIn_wide.2 HF.out).mono ?_⟩
                  rintro e W3 ⟨rfl, hB3⟩
                  have HT : Hid (TF w D1 D2 [(w4.heap.size, 0, .slice aS 0 cS), (W.heap.size, 0, .int .i64 (0 : Nat))] W3) := hide (by
                    have hb := HBK.out
                    have hs4 := HSW.out
                    have hlt := hb.lt
                    have hres := (HPR.out.call hB3).res
                    have h1 := HW4.out
                    refine ⟨HPR.out.bel.trans (hB3.mono HPR.out.bel.size), ⟨_, hres⟩, (hB3.block D1 (Array.getElem?_eq_some_iff.1 HKD1.out).1).trans HKD1.out, (hB3.block D2 (Array.getElem?_eq_some_iff.1 HKD2.out).1).trans HKD2.out, HD1.out, HD2.out, ?_⟩
                    intro p hp
                    simp only [List.mem_cons, List.not_mem_nil, or_false] at hp
                    rcases hp with rfl | rfl
                    · exact ⟨by show w4.heap.size ≠ _; omega, by show w4.heap.size < _; have := hB3.size; omega, (hB3.cell (p := ⟨w4.heap.size, 0, none⟩) (by show w4.heap.size < _; omega)).trans HCST.out⟩
                    · exact ⟨by show W.heap.size ≠ _; omega, by show W.heap.size < _; have := hB3.size; omega, (hB3.cell (p := ⟨W.heap.size, 0, none⟩) hlt).trans hb.cell⟩)
                  clear hB3 HF
                  gi_wp2_with fail
                  have HT4 := hide (HT.out.alloc (.cells #[.int .i64 0, .int .i64 0] 31))
                  clear HT
                  generalize (.cells #[.int .i64 0, .int .i64 0] 31 : Obj) = spot at *
                  generalize (W3.alloc spot) = W4 at *
                  refine wpIn_wide.2 ?_
                  have HT5 := hide HT4.out.drew
                  clear HT4
                  refine region_tail 24 (by kernel_rfl) (by kernel_rfl) ?_
                  generalize (W4.drew : World) = W5 at *
                  obtain ⟨f0, f1⟩ := TF.s2 HT5.out
                  simp only [List.take_succ_cons, List.take_zero, List.drop_succ_cons, List.drop_zero]
                  repeat (go_big_quiet_step (fail))
                  refine wpQuiet_nil ?_
                  go_wp2_with fail
                  refine (known_ok _).mono ?_
                  rintro e w5 ⟨rfl, hB5⟩
                  have HT6 := hide (HT5.out.call hB5)
                  obtain ⟨rb, r0, r1⟩ := HT6.out.rcell
                  clear HT5 hB5 f0 f1
                  go_wp2_with fail
                  obtain ⟨hT, hR⟩ := HT6.out.set true
                  generalize (w5.setCell ⟨w.heap.size + 1, 0, none⟩ (.bool true)) = W6 at *
                  obtain ⟨hC, hB6, k1⟩ := hT.ends true hR
                  have k2 := hT.d2
                  gi_wp2_with fail
                  refine ⟨by simp, .inl ⟨_, _, rfl, run_takeDeferred k2, ?_⟩⟩
                  refine ⟨by simp, .inl ⟨_, _, rfl, run_takeDeferred k1, ?_⟩⟩
                  exact ⟨.bool true, (by simp [results, Try.results3, go_sem, hC]), rfl, hB6⟩
              · as_aux_lemma =>
                  rw [if_neg hz, decide_eq_false hz, Bool.not_false] at HF
                  obtain ⟨bm, om, rfl, m0, m1⟩ := HSP.out (M.length - 1) (by omega)
                  have HM0 := hide m0
                  have HM1 := hide m1
                  clear m0 m1 HSP
                  generalize M.getD (M.length - 1) default = m at *
                  obtain ⟨mo, mp⟩ := m
                  dsimp only at HF HM0 HM1
                  have HZ := hide hz
                  clear hz
                  gi_wp2_with fail
                  refine ⟨trivial, (callsIn_wide.2 HF.out).mono ?_⟩
                  rintro e W3 ⟨rfl, hB3⟩
                  have HT : Hid (TF w D1 D2 [(w4.heap.size, 0, .slice (some ⟨bm, om, none⟩) M.length cS), (W.heap.size, 0, .int .i64 (M.length : Nat)), (bm, om + (M.length - 1) * 2, .int .i64 mo), (bm, om + (M.length - 1) * 2 + 1, .int .i64 mp)] W3) := hide (by
                    have hb := HBK.out
                    have hs4 := HSW.out
                    have hlt := hb.lt
                    have hres := (HPR.out.call hB3).res
                    have h1 := HW4.out
                    have hbm : bm < W2.heap.size := World.block_lt_of_cell? W2 _ HM0.out
                    have hne : bm ≠ w.heap.size + 1 := by
                      intro e
                      subst e
                      have h2 := HM1.out
                      rw [cell_of_row _ _ _ _ _ _ HPR.out.res] at h2
                      have h3 := HM0.out
                      rw [cell_of_row _ _ _ _ _ _ HPR.out.res] at h3
                      rcases Nat.eq_zero_or_pos (om + (M.length - 1) * 2) with h4 | h4
                      · rw [h4] at h2
                        simp at h2
                      · rw [Array.getElem?_eq_none (by simp; omega)] at h3
                        cases h3
                    refine ⟨HPR.out.bel.trans (hB3.mono HPR.out.bel.size), ⟨_, hres⟩, (hB3.block D1 (Array.getElem?_eq_some_iff.1 HKD1.out).1).trans HKD1.out, (hB3.block D2 (Array.getElem?_eq_some_iff.1 HKD2.out).1).trans HKD2.out, HD1.out, HD2.out, ?_⟩
                    intro p hp
                    simp only [List.mem_cons, List.not_mem_nil, or_false] at hp
                    rcases hp with rfl | rfl | rfl | rfl
                    · exact ⟨by show w4.heap.size ≠ _; omega, by show w4.heap.size < _; have := hB3.size; omega, (hB3.cell (p := ⟨w4.heap.size, 0, none⟩) (by show w4.heap.size < _; omega)).trans HCST.out⟩
                    · exact ⟨by show W.heap.size ≠ _; omega, by show W.heap.size < _; have := hB3.size; omega, (hB3.cell (p := ⟨W.heap.size, 0, none⟩) hlt).trans hb.cell⟩
                    · exact ⟨hne, Nat.lt_of_lt_of_le hbm hB3.size, (hB3.cell (p := ⟨bm, _, none⟩) hbm).trans HM0.out⟩
                    · exact ⟨hne, Nat.lt_of_lt_of_le hbm hB3.size, (hB3.cell (p := ⟨bm, _, none⟩) hbm).trans HM1.out⟩)
                  clear hB3 HF
                  gi_wp2_with fail
                  have HT4 := hide (((HT.out.alloc (.cells #[.int .i64 mo, .int .i64 mp] 31)).cons (b := W3.heap.size) (o := 1) (v := .int .i64 mp) (by have h1 := HT.out.l1; have h2 := (Array.getElem?_eq_some_iff.1 HT.out.d1).1; omega) (by simp) (by rw [cell_of_row _ _ _ _ _ _ (heap_alloc_new W3 _)]; rfl)).cons (b := W3.heap.size) (o := 0) (v := .int .i64 mo) (by have h1 := HT.out.l1; have h2 := (Array.getElem?_eq_some_iff.1 HT.out.d1).1; omega) (by simp) (by rw [cell_of_row _ _ _ _ _ _ (heap_alloc_new W3 _)]; rfl))
                  clear HT
                  generalize (.cells #[.int .i64 mo, .int .i64 mp] 31 : Obj) = spot at *
                  generalize (W3.alloc spot) = W4 at *
                  refine wpIn_wide.2 ?_
                  have HT5 := hide HT4.out.drew
                  clear HT4
                  refine region_tail 24 (by kernel_rfl) (by kernel_rfl) ?_
                  generalize (W4.drew : World) = W5 at *
                  obtain ⟨f0, f1, f2, f3, f4, f5⟩ := TF.s6 HT5.out
                  have z1 : decide ((0 : Int) < (M.length : Int)) = true := decide_eq_true (by have := HZ.out; omega)
                  have z1' : decide (0 < M.length) = true := decide_eq_true (by have := HZ.out; omega)
                  have z2 : ((M.length : Int) == 0) = false := beq_eq_false_iff_ne.2 (by have := HZ.out; omega)
                  have hw1 : IntKind.i64.wrap ((M.length : Int) - 1) = ((M.length - 1 : Nat) : Int) := by have := HZ.out; rw [IntKind.wrap_i64]; omega
                  have hi1 : ((M.length - 1 : Nat) : Int) < (M.length : Int) := by have := HZ.out; omega
                  have hi2 : M.length - 1 < M.length := by have := HZ.out; omega
                  simp only [List.take_succ_cons, List.take_zero, List.drop_succ_cons, List.drop_zero]
                  repeat (go_big_quiet_step (fail))
                  refine wpQuiet_nil ?_
                  go_wp2_with fail
                  refine (known_ok _).mono ?_
                  rintro e w5 ⟨rfl, hB5⟩
                  have HT6 := hide (HT5.out.call hB5)
                  obtain ⟨rb, r0, r1⟩ := HT6.out.rcell
                  clear HT5 hB5 f0 f1 f2 f3 f4 f5
                  go_wp2_with fail
                  obtain ⟨hT, hR⟩ := HT6.out.set true
                  generalize (w5.setCell ⟨w.heap.size + 1, 0, none⟩ (.bool true)) = W6 at *
                  obtain ⟨hC, hB6, k1⟩ := hT.ends true hR
                  have k2 := hT.d2
                  gi_wp2_with fail
                  refine ⟨by simp, .inl ⟨_, _, rfl, run_takeDeferred k2, ?_⟩⟩
                  refine ⟨by simp, .inl ⟨_, _, rfl, run_takeDeferred k1, ?_⟩⟩
                  exact ⟨.bool true, (by simp [results, Try.results3, go_sem, hC]), rfl, hB6⟩
      · as_aux_lemma =>
          obtain rfl : k = n := by omega
          have d1 : decide ((k : Int) < (k : Int)) = false := decide_eq_false (by omega)
          have d1' : decide (k < k) = false := decide_eq_false (by omega)
          clear hgo hlt hat
          have hk300 : k ≤ 300 := by have := HN3.out; omega
          have hinv := HINV.out k
          have HR := hide hinv.rise
          have HLEN : Hid ((cutsL st sz k).length ≤ 300) := hide (by have := hinv.len; omega)
          have HOFF : Hid (∀ a, a < (cutsL st sz k).length → ((cutsL st sz k).getD a default).o ≤ 9007199254740992) := hide (fun a ha => by have := hinv.bnd a ha; omega)
          have HK2 := hide HK.out
          clear hinv HADD HMAY HSUC HINV HAT HAT0 HS HSZ HK
          generalize cutsL st sz k = L at *
          generalize cutsAt sz k = q at *
          have hle : cutN x L ≤ L.length := firstT_le _ L
          obtain ⟨vx, hvx⟩ := HK2.out.ix
          have HVX := hide hvx
          clear hvx
          gi_wp2_with fail
          refine ⟨trivial, (callsIn_wide.2 (Copy_ok HVX.out HST.out (by have := HLEN.out; omega))).mono ?_⟩
          rintro e w1 ⟨g2, v2, rfl, ho, hg2, hB⟩
          have HO := hide ho
          have HB1 := hide hB
          have HG2 := hide hg2
          have HP1 := hide (HP.out.call (HK2.out.bel.trans (hB.mono HK2.out.bel.size)))
          clear ho hg2 hB
          have c0 := HP1.out.cell
          gi_wp2_with fail
          refine ⟨trivial, (callsIn_wide.2 (Cut_ok x HO.out HST.out (by have := HLEN.out; omega) HB1.out.size (rising_cut HR.out x))).mono ?_⟩
          rintro e w2 ⟨v3, rfl, ho2, hkx, hob⟩
          have hBW := hkx.below HB1.out HB1.out.size HG2.out (own_lt HO.out.own)
          obtain ⟨M, hM⟩ : ∃ M, M = L.take (cutN x L) := ⟨_, rfl⟩
          rw [← hM] at ho2
          have HX2 : Hid (XO w0 w2 w0.heap.size g2 wr.heap.size st L M) := hide ⟨HK2.out.bel.trans (hBW.mono HK2.out.bel.size), ⟨vx, HVX.out.call hBW⟩, ⟨v3, ho2⟩⟩
          have HM := hide hM
          have HML : Hid (M.length = cutN x L) := hide (by rw [hM, List.length_take]; omega)
          have HMC : Hid ((L.length : Int) - (cutN x L : Nat) = (L.length : Int) - (M.length : Nat)) := hide (by rw [HML.out])
          rw [HMC.out]
          clear hkx hob hBW hM ho2 HO HB1 HG2 HP1 HVX c0 HK2
          obtain ⟨ux, hux⟩ := HX2.out.x
          gi_wp2_with fail
          refine ⟨trivial, (callsIn_wide.2 (All_ok hux HST.out (by have := HLEN.out; omega))).mono ?_⟩
          clear hux
          rintro e w3 ⟨B1, a1, c1, rfl, hc1, hs1, hl1, hu1, ha1, hB⟩
          have HX3 := hide (HX2.out.call hB)
          have HA1 := hide (And.intro hc1 (And.intro hs1 (And.intro hu1 ha1)))
          clear hc1 hs1 hl1 hu1 ha1 hB
          obtain ⟨uo, huo⟩ := HX3.out.o
          gi_wp2_with fail
          refine ⟨trivial, (callsIn_wide.2 (All_ok huo HST.out (by rw [HML.out]; have := HLEN.out; omega))).mono ?_⟩
          clear huo
          rintro e w4 ⟨B2, a2, c2, rfl, hc2, hs2, hl2, hu2, ha2, hB⟩
          have HX4 := hide (HX3.out.call hB)
          have HA2 := hide (And.intro hc2 (And.intro hs2 (And.intro hu2 ha2)))
          have HA3 := hide (And.intro ((hB.cell (p := ⟨B1, 0, none⟩) HA1.out.2.2.1).trans HA1.out.1) (And.intro (HA1.out.2.1.below hB (Nat.le_refl _)) (And.intro (Nat.lt_of_lt_of_le HA1.out.2.2.1 hB.size) (fun b off e => Nat.lt_of_lt_of_le (HA1.out.2.2.2 b off e) hB.size))))
          clear hc2 hs2 hl2 hu2 ha2 hB HA1
          have hnil1 : ∀ w : World, (binOp BinOp.eql 36 (.func (.func 41) #[] #[.pointer (some ⟨B1, 0, none⟩)]) .nilFunc).run Try.prog w = .ok (.bool false) w := fun _ => by kernel_rfl
          have hnil2 : ∀ w : World, (binOp BinOp.eql 36 (.func (.func 41) #[] #[.pointer (some ⟨B2, 0, none⟩)]) .nilFunc).run Try.prog w = .ok (.bool false) w := fun _ => by kernel_rfl
          obtain ⟨ux, hux⟩ := HX4.out.x
          obtain ⟨uo, huo⟩ := HX4.out.o
          have HLX := hide (Len_ok hux HST.out)
          have HLO := hide (Len_ok huo HST.out)
          clear hux huo
          have hll : M.length ≤ L.length := by rw [HML.out]; exact hle
          have hlb : L.length ≤ 300 := HLEN.out
          have hw9 : IntKind.i64.wrap ((L.length : Int) - (M.length : Int)) = (L.length : Int) - (M.length : Int) := by rw [IntKind.wrap_i64]; omega
          have hq9 : ((L.length : Int) - (M.length : Int) != (L.length : Int) - (M.length : Int)) = false := by simp
          have HLL := hide hll
          clear hll hlb hle
          gi_wp2_with fail
          refine ⟨trivial, (callsIn_wide.2 HLX.out).mono ?_⟩
          rintro e w' ⟨rfl, rfl⟩
          gi_wp2_with fail
          refine ⟨trivial, (callsIn_wide.2 HLO.out).mono ?_⟩
          rintro e w' ⟨rfl, rfl⟩
          clear HLX HLO
          gi_wp2_with fail
          obtain ⟨W0, hW0⟩ : ∃ W0, W0 = w4.alloc (.cells #[.slice none 0 0] 39) := ⟨_, rfl⟩
          have hsz : W0.heap.size = w4.heap.size + 1 := by rw [hW0]; simp
          have hB40 : Below w4.heap.size w4 W0 := by rw [hW0]; exact (Below.refl _ _).alloc (Nat.le_refl _) _
          have bS : Boxed W0 w4.heap.size 39 (.slice none 0 0) := by rw [hW0]; exact Boxed.new _ _ _
          rw [← hW0]
          clear hW0
          have HP4 := hide (HP.out.call HX4.out.bel)
          obtain ⟨i0, hi, hz0, hz1, hz2⟩ := info_spot
          have hL1 : L.length ≤ 1000000 := by have := HLEN.out; omega
          have hM1 : M.length ≤ 1000000 := by have := HLEN.out; have := HLL.out; omega
          refine wpIn_rangeFunc_ownH rfl (by omega) (gf := 41) (lb := #[.pointer (some ⟨B1, 0, none⟩)]) rfl trivial (enters_of Try.func41 (by kernel_rfl) rfl)
            (values_stops 3 (by omega) B1 w4.heap.size a1 c1 L hL1 HA3.out.2.2.1 HA3.out.2.2.2 W0 (by omega) ((hB40.cell (p := ⟨B1, 0, none⟩) HA3.out.2.2.1).trans HA3.out.1) (HA3.out.2.1.below hB40 (Nat.le_refl _)))
            belowK_t (belowK_b (by omega)) (Below.refl _ _) (fun _ => rfl)
            (fun pre W => (∃ v, Boxed W w4.heap.size 39 v ∧ W.ownsRow w4.heap.size 31 2 v (aheadL x pre).length (spotCells (aheadL x pre)) ∧ True) ∧ Below w4.heap.size w4 W)
            (fun _ _ _ => False)
            (OwnFrom.and (Own.from (holdsRow_own w4.heap.size w4.heap.size 39 31 2 (fun pre => (aheadL x pre).length) (fun pre => spotCells (aheadL x pre)) (fun _ _ => True)) _) (ownFrom_below (Nat.le_refl _) (by omega)))
            (fun _ _ _ _ _ hs _ _ => hs)
            ⟨⟨_, bS, ⟨rfl, .inl ⟨rfl, rfl⟩⟩, trivial⟩, hB40⟩
            (AxB w4.heap.size ?grm) (AxB.own _ _ _)
            ?assign ?body ?done ?stop
          case assign =>
            rintro l pre s W K ⟨⟨v, hv1, hv2, _⟩, hB⟩ hK
            obtain ⟨so, hso⟩ : ∃ y, y = s.o := ⟨_, rfl⟩
            gi_wp2
            have hlt := hv1.lt
            have hnb := heap_alloc_new W (.cells #[.int .i64 s.o, .int .i64 s.p] 31)
            have hK' := hK
            refine hK _ _ ((KeepsOthers.alloc _ _).from _) ((Below.refl _ W).alloc hB.size _) ⟨⟨v, hv1.alloc _, kept_below2 hv2 ((Below.refl _ _).alloc (Nat.le_refl _) _), trivial⟩, hB.alloc hB.size _⟩ ⟨W.heap.size, hlt, hnb, ?_⟩
            generalize W.heap.size = Bx
            rfl
          case body =>
            rintro l pre s a' W hl ⟨r, hr⟩ ⟨⟨v, hv, hrow, _⟩, hB⟩ ⟨Bx, hBx, bX, rfl⟩ hlt
            dsimp only
            have x0 : W.cell? ⟨Bx, 0, none⟩ = some (.int .i64 s.o) := by rw [cell_of_row _ _ _ _ _ _ bX]; rfl
            have x1 : W.cell? ⟨Bx, 1, none⟩ = some (.int .i64 s.p) := by rw [cell_of_row _ _ _ _ _ _ bX]; rfl
            have c0 := (HP4.out.call hB).cell
            have hal : (aheadL x pre).length ≤ pre.length := List.length_filter_le _ _
            have hn1 : (aheadL x pre).length + 1 ≤ 1000000 := by omega
            have hsn := ahead_snoc x pre s
            obtain ⟨ao, cap, rfl, _⟩ := OwnSpots.any hrow
            have cS := hv.cell
            by_cases hp : s.p < x
            · have q1 : decide (s.p < x) = true := decide_eq_true hp
              rw [if_pos hp] at hsn
              have HSN := hide hsn
              clear hsn hp
              gi_wp2_with (gi_at_builtin; refine wpListIn_append_own _ rfl _ _ 39 rfl w4.heap.size 31 i0 (.agg #[.int .i64 0, .int .i64 0]) 2 16 Try.underlying39 hi hz0 hz1 hz2 rfl (by decide) _ _ _ rfl (hrow.alloc _) ⟨W.heap.size, 0, none⟩ 1 1 [.int .i64 s.o, .int .i64 s.p] rfl rfl (World.news_of_block (heap_alloc_new W (.cells #[.int .i64 s.o, .int .i64 s.p] 31))) (by intro u hu; simp at hu; rcases hu with rfl | rfl <;> rfl) (by unfold maxLen; omega) (by omega) (by have := hB.size; simp; omega) ?_; intro v' w1 hown' hgrow _; obtain ⟨g', cap', rfl⟩ := ownsRow_succ hown'; obtain ⟨hv1, hv2, hr2, hk2, hb2⟩ := hv.appended (by decide) hrow hB.size (Nat.le_refl _) hown' hgrow; have hc1 := hv1.cell; have hf1 := hv1.frozen)
              exact ⟨hk2.from _, hb2, ⟨_, hv2, by rw [HSN.out, List.length_append, List.length_singleton, spotCells_append]; exact hr2, trivial⟩, hB.trans hb2⟩
            · have q1 : decide (s.p < x) = false := decide_eq_false hp
              rw [if_neg hp] at hsn
              have HSN := hide hsn
              clear hsn hp
              gi_wp2
              exact ⟨KeepsFrom.refl _ _, Below.refl _ _, ⟨_, hv, by rw [HSN.out]; exact hrow, trivial⟩, hB⟩
          case stop => exact fun D c pre W _ _ hf _ => hf.elim
          case done =>
            rintro D1 xs W hD hxs ⟨⟨v, hv, hrow, _⟩, hB⟩ hK
            rw [hxs, ahead_take HR.out x, ← HM.out] at hrow
            clear hxs
            obtain ⟨aS, cS, rfl, _, _, hsS, hatS⟩ := OwnSpots.any hrow
            have HXW := hide (HX4.out.call hB)
            have HPW := hide (HP4.out.call hB)
            have HK1 := hide hK
            have HCS := hide hv
            have HSS := hide hsS
            have HA2W := hide (And.intro ((hB.cell (p := ⟨B2, 0, none⟩) HA2.out.2.2.1).trans HA2.out.1) (And.intro (HA2.out.2.1.below hB (Nat.le_refl _)) (And.intro (Nat.lt_of_lt_of_le HA2.out.2.2.1 hB.size) (fun b off e => Nat.lt_of_lt_of_le (HA2.out.2.2.2 b off e) hB.size))))
            have HSW : Hid (w4.heap.size < W.heap.size) := hide hv.lt
            have HD1 : Hid (w.heap.size + 1 < D1) := hide (by have h1 := (Array.getElem?_eq_some_iff.1 HP4.out.res).1; omega)
            have HW4 : Hid (w.heap.size + 1 < w4.heap.size) := hide (Array.getElem?_eq_some_iff.1 HP4.out.res).1
            clear hv hrow hsS hatS hB hK hD bS hB40 hsz HP4 HX4 HA2 HA3
            gi_wp2_with fail
            obtain ⟨W1, hW1⟩ : ∃ W1, W1 = W.alloc (.cells #[.int .i64 0] 3) := ⟨_, rfl⟩
            have hsz : W1.heap.size = W.heap.size + 1 := by rw [hW1]; simp
            have hB1 : Below W.heap.size W W1 := by rw [hW1]; exact (Below.refl _ _).alloc (Nat.le_refl _) _
            have bK : Boxed W1 W.heap.size 3 (.int .i64 0) := by rw [hW1]; exact Boxed.new _ _ _
            rw [← hW1]
            clear hW1
            refine wpIn_rangeFunc_ownH rfl (by omega) (gf := 41) (lb := #[.pointer (some ⟨B2, 0, none⟩)]) rfl trivial (enters_of Try.func41 (by kernel_rfl) rfl)
              (values_stops 3 (by omega) B2 W.heap.size a2 c2 M hM1 HA2W.out.2.2.1 HA2W.out.2.2.2 W1 (by omega) ((hB1.cell (p := ⟨B2, 0, none⟩) HA2W.out.2.2.1).trans HA2W.out.1) (HA2W.out.2.1.below hB1 (Nat.le_refl _)))
              belowK_t (belowK_b (by omega)) (Below.refl _ _) (fun _ => rfl)
              (fun pre W' => Boxed W' W.heap.size 3 (.int .i64 (pre.length : Nat)) ∧ Below W.heap.size W W')
              (fun c pre W' => c = .ret ∧ ∃ j, j < pre.length ∧ pre.getD j default ≠ M.getD j default)
              (OwnFrom.and (Own.from (boxed_own W.heap.size 3 (fun pre : List S2 => .int .i64 (pre.length : Nat))) _) (ownFrom_below (Nat.le_refl _) (by omega)))
              (fun _ _ _ _ _ hs _ _ => hs)
              ⟨bK, hB1⟩
              (AxB W.heap.size ?grm2) (AxB.own _ _ _)
              ?assign2 ?body2 ?done2 ?stop2
            case assign2 =>
              rintro l pre s W2 K ⟨hb, hB⟩ hK
              gi_wp2
              have hlt := hb.lt
              have hnb := heap_alloc_new W2 (.cells #[.int .i64 s.o, .int .i64 s.p] 31)
              refine hK _ _ ((KeepsOthers.alloc _ _).from _) ((Below.refl _ W2).alloc hB.size _) ⟨hb.alloc _, hB.alloc hB.size _⟩ ⟨W2.heap.size, hlt, hnb, ?_⟩
              generalize W2.heap.size = Bx
              rfl
            case stop2 =>
              rintro D c pre W2 _ ⟨k, hk, rfl⟩ ⟨_, j, hj, hne⟩ _
              rw [List.length_take] at hj
              exact absurd (by rw [List.getD_eq_getElem?_getD, List.getElem?_take_of_lt (by omega), ← List.getD_eq_getElem?_getD]) hne
            case body2 =>
              rintro l pre s a' W2 hl ⟨r, hr⟩ ⟨hb, hB⟩ ⟨Bx, hBx, bX, rfl⟩ hlt
              dsimp only
              have x0 : W2.cell? ⟨Bx, 0, none⟩ = some (.int .i64 s.o) := by rw [cell_of_row _ _ _ _ _ _ bX]; rfl
              have x1 : W2.cell? ⟨Bx, 1, none⟩ = some (.int .i64 s.p) := by rw [cell_of_row _ _ _ _ _ _ bX]; rfl
              have ck := hb.cell
              have cs : W2.cell? ⟨w4.heap.size, 0, none⟩ = some (.slice aS M.length cS) := (hB.cell (p := ⟨w4.heap.size, 0, none⟩) HSW.out).trans HCS.out.cell
              obtain ⟨bm, om, rfl, m0, m1⟩ := (HSS.out.below hB (Nat.le_refl _)) pre.length hlt
              have q1 : decide ((M.length : Int) ≤ (pre.length : Int)) = false := decide_eq_false (by omega)
              have q1' : decide (M.length ≤ pre.length) = false := decide_eq_false (by omega)
              have hx1 : (pre.length : Int) < (M.length : Int) := by omega
              have HBB := hide hb
              have HB2 := hide hB
              have HPRE : Hid (pre.length + 1 ≤ 1000000) := hide (by omega)
              have HNE : Hid (s ≠ M.getD pre.length default → ∃ j, j < (pre ++ [s]).length ∧ (pre ++ [s]).getD j default ≠ M.getD j default) := hide (fun h => ⟨pre.length, by simp, by rw [getD_last, if_neg (by omega), if_pos rfl]; exact h⟩)
              have HRES := hide (HPW.out.call hB).rcell
              clear hb hB
              generalize M.getD pre.length default = m at *
              obtain ⟨mo, mp⟩ := m
              obtain ⟨so, sp⟩ := s
              dsimp only at *
              by_cases e1 : so = mo
              · by_cases e2 : sp = mp
                · subst e1 e2
                  gi_wp2_with fail
                  refine region_quiet_round (by kernel_rfl) (by kernel_rfl) (by kernel_rfl) ?_
                  repeat (gi_big_quiet_step (fail))
                  refine wpQuietIn_nil ?_
                  rintro w' ⟨nq, rfl⟩
                  have hw1 : IntKind.i64.wrap ((pre.length : Int) + 1) = (pre.length : Int) + 1 := by have := HPRE.out; rw [IntKind.wrap_i64]; omega
                  have ck2 : (W2.drewN nq).cell? ⟨W.heap.size, 0, none⟩ = some (.int .i64 (pre.length : Nat)) := HBB.out.cell
                  have fk2 : (W2.drewN nq).frozen? ⟨W.heap.size, 0, none⟩ = false := HBB.out.frozen
                  gi_wp2
                  refine ⟨(KeepsOthers.trans (show KeepsOthers W2 (W2.drewN nq) from ⟨Nat.le_refl _, fun _ _ h _ => h⟩) (KeepsOthers.setCell _ _ _)).from _, (belowDrewN (Below.refl W.heap.size W2) nq).setCell (p := ⟨W.heap.size, 0, none⟩) (Nat.le_refl _) _, ?_, (belowDrewN HB2.out nq).setCell (p := ⟨W.heap.size, 0, none⟩) (Nat.le_refl _) _⟩
                  have e : (((pre ++ [(⟨so, sp⟩ : S2)]).length : Nat) : Int) = (pre.length : Int) + 1 := by rw [List.length_append, List.length_singleton]; omega
                  rw [e]
                  exact (show Boxed (W2.drewN nq) W.heap.size 3 _ from HBB.out).set _
                · have q2 : (sp == mp) = false := beq_eq_false_iff_ne.2 e2
                  gi_wp2_with fail
                  refine region_quiet_round (by kernel_rfl) (by kernel_rfl) (by kernel_rfl) ?_
                  repeat (gi_big_quiet_step (fail))
                  refine wpQuietIn_nil ?_
                  rintro w' ⟨nq, rfl⟩
                  obtain ⟨r0, r1⟩ := HRES.out
                  gi_wp2
                  exact ⟨(KeepsOthers.trans (show KeepsOthers W2 (W2.drewN nq) from ⟨Nat.le_refl _, fun _ _ h _ => h⟩) (KeepsOthers.setCell _ _ _)).from _, rfl, HNE.out (fun e => by injection e with h1 h2; exact e2 h2)⟩
              · have q2 : (so == mo) = false := beq_eq_false_iff_ne.2 e1
                gi_wp2_with fail
                refine region_quiet_round (by kernel_rfl) (by kernel_rfl) (by kernel_rfl) ?_
                repeat (gi_big_quiet_step (fail))
                refine wpQuietIn_nil ?_
                rintro w' ⟨nq, rfl⟩
                obtain ⟨r0, r1⟩ := HRES.out
                gi_wp2
                exact ⟨(KeepsOthers.trans (show KeepsOthers W2 (W2.drewN nq) from ⟨Nat.le_refl _, fun _ _ h _ => h⟩) (KeepsOthers.setCell _ _ _)).from _, rfl, HNE.out (fun e => by injection e with h1 h2; exact e1 h1)⟩
            case done2 =>
              rintro D2 ys W2 hD hys ⟨hb, hB⟩ hK
              rw [hys] at hb
              clear hys
              have HX5 := hide (HXW.out.call hB)
              have HRM : Hid (Rising M) := hide (by rw [HM.out]; exact HR.out.take _)
              obtain ⟨uo, huo⟩ := HX5.out.o
              have HF := hide (Find_ok 9007199254740992 huo HST.out (by omega) HRM.out.mono)
              have hft : firstT (fun s => decide (9007199254740992 < s.o)) M = M.length := lastR_all (fun a ha => by
                have h1 : cutN x L ≤ L.length := firstT_le _ L
                rw [HM.out, List.length_take] at ha
                rw [HM.out, List.getD_eq_getElem?_getD, List.getElem?_take_of_lt (by omega), ← List.getD_eq_getElem?_getD]
                exact HOFF.out a (by omega))
              unfold lastR lastB spotV at HF
              rw [hft] at HF
              have HBK := hide hb
              have HCST : Hid (W2.cell? ⟨w4.heap.size, 0, none⟩ = some (.slice aS M.length cS)) := hide ((hB.cell (p := ⟨w4.heap.size, 0, none⟩) HSW.out).trans HCS.out.cell)
              have HSP := hide (HSS.out.below hB (Nat.le_refl _))
              have HPR := hide (HPW.out.call hB)
              have HKD1 := hide ((hB.block D1 (Array.getElem?_eq_some_iff.1 HK1.out).1).trans HK1.out)
              have HKD2 := hide hK
              have HD2 : Hid (D1 < D2) := hide (by have h1 := (Array.getElem?_eq_some_iff.1 HK1.out).1; omega)
              clear hb hB hK huo hft hD
              by_cases hz : M.length = 0
              · as_aux_lemma =>
                  rw [if_pos hz, decide_eq_true hz] at HF
                  rw [hz] at HBK HCST
                  gi_wp2_with fail
                  refine ⟨trivial, (callsIn_wide.2 HF.out).mono ?_⟩
                  rintro e W3 ⟨rfl, hB3⟩
                  have HT : Hid (TF w D1 D2 [(w4.heap.size, 0, .slice aS 0 cS), (W.heap.size, 0, .int .i64 (0 : Nat))] W3) := hide (by
                    have hb := HBK.out
                    have hs4 := HSW.out
                    have hlt := hb.lt
                    have hres := (HPR.out.call hB3).res
                    have h1 := HW4.out
                    refine ⟨HPR.out.bel.trans (hB3.mono HPR.out.bel.size), ⟨_, hres⟩, (hB3.block D1 (Array.getElem?_eq_some_iff.1 HKD1.out).1).trans HKD1.out, (hB3.block D2 (Array.getElem?_eq_some_iff.1 HKD2.out).1).trans HKD2.out, HD1.out, HD2.out, ?_⟩
                    intro p hp
                    simp only [List.mem_cons, List.not_mem_nil, or_false] at hp
                    rcases hp with rfl | rfl
                    · exact ⟨by show w4.heap.size ≠ _; omega, by show w4.heap.size < _; have := hB3.size; omega, (hB3.cell (p := ⟨w4.heap.size, 0, none⟩) (by show w4.heap.size < _; omega)).trans HCST.out⟩
                    · exact ⟨by show W.heap.size ≠ _; omega, by show W.heap.size < _; have := hB3.size; omega, (hB3.cell (p := ⟨W.heap.size, 0, none⟩) hlt).trans hb.cell⟩)
                  clear hB3 HF
                  gi_wp2_with fail
                  have HT4 := hide (HT.out.alloc (.cells #[.int .i64 0, .int .i64 0] 31))
                  clear HT
                  generalize (.cells #[.int .i64 0, .int .i64 0] 31 : Obj) = spot at *
                  generalize (W3.alloc spot) = W4 at *
                  refine wpIn_wide.2 ?_
                  have HT5 := hide HT4.out.drew
                  clear HT4
                  refine region_tail 24 (by kernel_rfl) (by kernel_rfl) ?_
                  generalize (W4.drew : World) = W5 at *
                  obtain ⟨f0, f1⟩ := TF.s2 HT5.out
                  simp only [List.take_succ_cons, List.take_zero, List.drop_succ_cons, List.drop_zero]
                  repeat (go_big_quiet_step (fail))
                  refine wpQuiet_nil ?_
                  go_wp2_with fail
                  refine (known_ok _).mono ?_
                  rintro e w5 ⟨rfl, hB5⟩
                  have HT6 := hide (HT5.out.call hB5)
                  obtain ⟨rb, r0, r1⟩ := HT6.out.rcell
                  clear HT5 hB5 f0 f1
                  go_wp2_with fail
                  obtain ⟨hT, hR⟩ := HT6.out.set true
                  generalize (w5.setCell ⟨w.heap.size + 1, 0, none⟩ (.bool true)) = W6 at *
                  obtain ⟨hC, hB6, k1⟩ := hT.ends true hR
                  have k2 := hT.d2
                  gi_wp2_with fail
                  refine ⟨by simp, .inl ⟨_, _, rfl, run_takeDeferred k2, ?_⟩⟩
                  refine ⟨by simp, .inl ⟨_, _, rfl, run_takeDeferred k1, ?_⟩⟩
                  exact ⟨.bool true, (by simp [results, Try.results3, go_sem, hC]), rfl, hB6⟩
              · as_aux_lemma =>
                  rw [if_neg hz, decide_eq_false hz, Bool.not_false] at HF
                  obtain ⟨bm, om, rfl, m0, m1⟩ := HSP.out (M.length - 1) (by omega)
                  have HM0 := hide m0
                  have HM1 := hide m1
                  clear m0 m1 HSP
                  generalize M.getD (M.length - 1) default = m at *
                  obtain ⟨mo, mp⟩ := m
                  dsimp only at HF HM0 HM1
                  have HZ := hide hz
                  clear hz
                  gi_wp2_with fail
                  refine ⟨trivial, (callsIn_wide.2 HF.out).mono ?_⟩
                  rintro e W3 ⟨rfl, hB3⟩
                  have HT : Hid (TF w D1 D2 [(w4.heap.size, 0, .slice (some ⟨bm, om, none⟩) M.length cS), (W.heap.size, 0, .int .i64 (M.length : Nat)), (bm, om + (M.length - 1) * 2, .int .i64 mo), (bm, om + (M.length - 1) * 2 + 1, .int .i64 mp)] W3) := hide (by
                    have hb := HBK.out
                    have hs4 := HSW.out
                    have hlt := hb.lt
                    have hres := (HPR.out.call hB3).res
                    have h1 := HW4.out
                    have hbm : bm < W2.heap.size := World.block_lt_of_cell? W2 _ HM0.out
                    have hne : bm ≠ w.heap.size + 1 := by
                      intro e
                      subst e
                      have h2 := HM1.out
                      rw [cell_of_row _ _ _ _ _ _ HPR.out.res] at h2
                      have h3 := HM0.out
                      rw [cell_of_row _ _ _ _ _ _ HPR.out.res] at h3
                      rcases Nat.eq_zero_or_pos (om + (M.length - 1) * 2) with h4 | h4
                      · rw [h4] at h2
                        simp at h2
                      · rw [Array.getElem?_eq_none (by simp; omega)] at h3
                        cases h3
                    refine ⟨HPR.out.bel.trans (hB3.mono HPR.out.bel.size), ⟨_, hres⟩, (hB3.block D1 (Array.getElem?_eq_some_iff.1 HKD1.out).1).trans HKD1.out, (hB3.block D2 (Array.getElem?_eq_some_iff.1 HKD2.out).1).trans HKD2.out, HD1.out, HD2.out, ?_⟩
                    intro p hp
                    simp only [List.mem_cons, List.not_mem_nil, or_false] at hp
                    rcases hp with rfl | rfl | rfl | rfl
                    · exact ⟨by show w4.heap.size ≠ _; omega, by show w4.heap.size < _; have := hB3.size; omega, (hB3.cell (p := ⟨w4.heap.size, 0, none⟩) (by show w4.heap.size < _; omega)).trans HCST.out⟩
                    · exact ⟨by show W.heap.size ≠ _; omega, by show W.heap.size < _; have := hB3.size; omega, (hB3.cell (p := ⟨W.heap.size, 0, none⟩) hlt).trans hb.cell⟩
                    · exact ⟨hne, Nat.lt_of_lt_of_le hbm hB3.size, (hB3.cell (p := ⟨bm, _, none⟩) hbm).trans HM0.out⟩
                    · exact ⟨hne, Nat.lt_of_lt_of_le hbm hB3.size, (hB3.cell (p := ⟨bm, _, none⟩) hbm).trans HM1.out⟩)
                  clear hB3 HF
                  gi_wp2_with fail
                  have HT4 := hide (((HT.out.alloc (.cells #[.int .i64 mo, .int .i64 mp] 31)).cons (b := W3.heap.size) (o := 1) (v := .int .i64 mp) (by have h1 := HT.out.l1; have h2 := (Array.getElem?_eq_some_iff.1 HT.out.d1).1; omega) (by simp) (by rw [cell_of_row _ _ _ _ _ _ (heap_alloc_new W3 _)]; rfl)).cons (b := W3.heap.size) (o := 0) (v := .int .i64 mo) (by have h1 := HT.out.l1; have h2 := (Array.getElem?_eq_some_iff.1 HT.out.d1).1; omega) (by simp) (by rw [cell_of_row _ _ _ _ _ _ (heap_alloc_new W3 _)]; rfl))
                  clear HT
                  generalize (.cells #[.int .i64 mo, .int .i64 mp] 31 : Obj) = spot at *
                  generalize (W3.alloc spot) = W4 at *
                  refine wpIn_wide.2 ?_
                  have HT5 := hide HT4.out.drew
                  clear HT4
                  refine region_tail 24 (by kernel_rfl) (by kernel_rfl) ?_
                  generalize (W4.drew : World) = W5 at *
                  obtain ⟨f0, f1, f2, f3, f4, f5⟩ := TF.s6 HT5.out
                  have z1 : decide ((0 : Int) < (M.length : Int)) = true := decide_eq_true (by have := HZ.out; omega)
                  have z1' : decide (0 < M.length) = true := decide_eq_true (by have := HZ.out; omega)
                  have z2 : ((M.length : Int) == 0) = false := beq_eq_false_iff_ne.2 (by have := HZ.out; omega)
                  have hw1 : IntKind.i64.wrap ((M.length : Int) - 1) = ((M.length - 1 : Nat) : Int) := by have := HZ.out; rw [IntKind.wrap_i64]; omega
                  have hi1 : ((M.length - 1 : Nat) : Int) < (M.length : Int) := by have := HZ.out; omega
                  have hi2 : M.length - 1 < M.length := by have := HZ.out; omega
                  simp only [List.take_succ_cons, List.take_zero, List.drop_succ_cons, List.drop_zero]
                  repeat (go_big_quiet_step (fail))
                  refine wpQuiet_nil ?_
                  go_wp2_with fail
                  refine (known_ok _).mono ?_
                  rintro e w5 ⟨rfl, hB5⟩
                  have HT6 := hide (HT5.out.call hB5)
                  obtain ⟨rb, r0, r1⟩ := HT6.out.rcell
                  clear HT5 hB5 f0 f1 f2 f3 f4 f5
                  go_wp2_with fail
                  obtain ⟨hT, hR⟩ := HT6.out.set true
                  generalize (w5.setCell ⟨w.heap.size + 1, 0, none⟩ (.bool true)) = W6 at *
                  obtain ⟨hC, hB6, k1⟩ := hT.ends true hR
                  have k2 := hT.d2
                  gi_wp2_with fail
                  refine ⟨by simp, .inl ⟨_, _, rfl, run_takeDeferred k2, ?_⟩⟩
                  refine ⟨by simp, .inl ⟨_, _, rfl, run_takeDeferred k1, ?_⟩⟩
                  exact ⟨.bool true, (by simp [results, Try.results3, go_sem, hC]), rfl, hB6⟩
end Go.Proofs.Ythbknahmmegcdaa
