/- Walk of index's Bytes. -/
import Derived.Test.YthbknahmmegcdaaIxPut
import Derived.Test.YthbknahmmegcdaaIxIter2
import Derived.Test.YthbknahmmegcdaaIxRoundHeld
import Derived.Deep.RegionHeld3
namespace Go.Proofs.Ythbknahmmegcdaa
open Go.RowKit Go.Shelf
set_option linter.unusedVariables false
set_option linter.unusedSimpArgs false

/-- a spot's bytes; an index's -/
def u64N (x : Int) : Nat := (x % 18446744073709551616).toNat
theorem u64N_wrap (x : Int) : IntKind.u64.wrap x = (u64N x : Int) := by rw [IntKind.wrap_u64]; unfold u64N; omega
theorem u64N_nat (x : Nat) (h : x < 18446744073709551616) : u64N (x : Int) = x := by unfold u64N; omega
def spotB (s : S2) : List Nat := numL (u64N s.o) 8 ++ numL (u64N s.p) 4
def spotsB : List S2 → List Nat
  | [] => []
  | s :: l => spotB s ++ spotsB l
def bytesL (st : Int) (l : List S2) : List Nat := numL (u64N st) 4 ++ numL l.length 4 ++ spotsB l
theorem spotB_length (s : S2) : (spotB s).length = 12 := by simp [spotB]
theorem spotsB_length (l : List S2) : (spotsB l).length = l.length * 12 := by
  induction l with
  | nil => rfl
  | cons s l ih => simp only [spotsB, List.length_append, spotB_length, List.length_cons, ih]; omega
theorem spotsB_snoc (l : List S2) (s : S2) : spotsB (l ++ [s]) = spotsB l ++ spotB s := by
  induction l with
  | nil => simp [spotsB]
  | cons x l ih => simp only [List.cons_append, spotsB, ih, List.append_assoc]
theorem bytesL_length (st : Int) (l : List S2) : (bytesL st l).length = 8 + l.length * 12 := by simp [bytesL, spotsB_length]; omega
/-- spots in range -/
def InR (l : List S2) : Prop := ∀ s, s ∈ l → 0 ≤ s.o ∧ s.o ≤ 9007199254740992 ∧ 0 ≤ s.p ∧ s.p ≤ 16777216

theorem put4_ok (base : Nat) (v : Value) (l : List Nat) (x : Nat) (hl : l.length ≤ 100000) (w : World) (hb : base ≤ w.heap.size) (h : w.ownsRow base 5 1 v l.length (byteC l)) :
    Calls Try.prog 35 #[v, .int .u64 (x : Nat), .int .i64 4] w fun e w' => ∃ v', e = .returned v' ∧ BRow base w v.ownBlock v' (l ++ numL x 4) w' := put_ok base v l x 4 (by omega) hl w hb h
theorem put8_ok (base : Nat) (v : Value) (l : List Nat) (x : Nat) (hl : l.length ≤ 100000) (w : World) (hb : base ≤ w.heap.size) (h : w.ownsRow base 5 1 v l.length (byteC l)) :
    Calls Try.prog 35 #[v, .int .u64 (x : Nat), .int .i64 8] w fun e w' => ∃ v', e = .returned v' ∧ BRow base w v.ownBlock v' (l ++ numL x 8) w' := put_ok base v l x 8 (by omega) hl w hb h
theorem put4_nil (base x : Nat) (w : World) (hb : base ≤ w.heap.size) :
    Calls Try.prog 35 #[.slice none 0 0, .int .u64 (x : Nat), .int .i64 4] w fun e w' => ∃ v', e = .returned v' ∧ BRow base w none v' (numL x 4) w' := put4_ok base (.slice none 0 0) [] x (by simp) w hb (World.ownsRow_nil _ _ _ _)
/-- what Bytes keeps: the index, the box of the bytes, its row -/
structure BY (w0 : World) (base g : Nat) (st : Int) (l : List S2) (v : Value) (B4 : Nat) (u : Value) (m : List Nat) (W : World) : Prop where
  bel : Below w0.heap.size w0 W
  box : Boxed W B4 43 u
  lo : w0.heap.size ≤ B4
  row : W.ownsRow w0.heap.size 5 1 u m.length (byteC m)

theorem BRow.alloc {base : Nat} {w0 w : World} {r0 : Option Nat} {v : Value} {l : List Nat} (h : BRow base w0 r0 v l w) (o : Obj) : BRow base w0 r0 v l (w.alloc o) :=
  ⟨h.own.alloc o, grown_trans h.grow (World.grownBy_alloc w o r0) (.inl rfl), h.lies⟩
theorem BRow.below {base B : Nat} {a w0 w : World} {r0 : Option Nat} {v : Value} {l : List Nat} (h : BRow base w0 r0 v l w) (hb : Below B a w0) (hB : B ≤ w0.heap.size) (hr : ∀ r, r0 = some r → B ≤ r) : Below B a w := hb.grown h.grow hB hr
theorem BRow.boxK {base B : Nat} {w0 w2 w3 : World} {r0 : Option Nat} {u u1 v : Value} {l l1 : List Nat} (hb : Boxed w2 B 43 u) (h1 : BRow base w0 r0 u1 l1 w2) (h : BRow base w2 u1.ownBlock v l w3) : Boxed w3 B 43 u :=
  hb.kept h.grow (Boxed.not_row hb (by decide) h1.own)
theorem BRow.box1 {base : Nat} {w0 w2 w3 : World} {r0 : Option Nat} {u u1 v : Value} {l l1 : List Nat} (h1 : BRow base w0 r0 u1 l1 w2) (h : BRow base (w2.alloc (.cells #[u] 43)) u1.ownBlock v l w3) : Boxed w3 w2.heap.size 43 u :=
  BRow.boxK (Boxed.new w2 _ u) (h1.alloc _) h
theorem BRow.box0 {base : Nat} {w w2 : World} {u v : Value} {l : List Nat} (h : BRow base (w.alloc (.cells #[u] 43)).drew none v l w2) : Boxed w2 w.heap.size 43 u :=
  Boxed.kept (show Boxed (w.alloc (.cells #[u] 43)).drew w.heap.size 43 u from heap_alloc_new w _) h.grow (by simp)
theorem BRow.lo {base : Nat} {w : World} {T : TypeId} {v : Value} {n : Nat} {xs : List Value} (h : w.ownsRow base T 1 v n xs) : ∀ r, v.ownBlock = some r → base ≤ r := fun r hr => (h.lt r hr).1

theorem BY.ofSet {w0 w2 w3 : World} {base g B4 : Nat} {st : Int} {l : List S2} {v u u0 : Value} {m : List Nat} {r : Option Nat} (hb : Below w0.heap.size w0 w3) (hx : Boxed w3 B4 43 u0) (hlo : w0.heap.size ≤ B4) (hr : BRow w0.heap.size w2 r u m w3) : BY w0 base g st l v B4 u m (w3.setCell ⟨B4, 0, none⟩ u) :=
  ⟨hb.setCell (p := ⟨B4, 0, none⟩) hlo _, hx.set u, hlo, hr.own.kept (grownBy_setCell' w3 B4 u) (.inr (Boxed.not_row hx (by decide) hr.own).symm)⟩
theorem BY.ofAlloc {w0 w2 w3 : World} {base g : Nat} {st : Int} {l : List S2} {v u : Value} {m : List Nat} {r : Option Nat} (hb : Below w0.heap.size w0 w3) (hr : BRow w0.heap.size w2 r u m w3) : BY w0 base g st l v w3.heap.size u m (w3.alloc (.cells #[u] 43)) :=
  ⟨hb.alloc hb.size _, Boxed.new w3 _ u, hb.size, hr.own.alloc _⟩

theorem cells_not_row {W : World} {B : Nat} {cs : Array Value} {t e : TypeId} (h : W.heap[B]? = some (.cells cs t (0, 0))) (hte : t ≠ e) {base size k : Nat} {v : Value} {xs : List Value} (hr : W.ownsRow base e size v k xs) : some B ≠ v.ownBlock := by
  rcases hr.2 with ⟨rfl, _⟩ | ⟨g, cap, cur, rfl, _, hgb, _⟩
  · simp [Value.ownBlock]
  · intro e'
    obtain rfl : B = g := by simpa [Value.ownBlock] using e'
    have := h.symm.trans hgb
    simp at this
    exact hte this.2
theorem body_end {base B4 : Nat} {W W2 : World} {v v2 : Value} {m m' : List Nat} (hv : Boxed W B4 43 v) (hrow : W.ownsRow base 5 1 v m.length (byteC m)) (hR : BRow base W.drew v.ownBlock v2 m' W2) (h4 : base ≤ B4) (hb : base ≤ W.heap.size) :
    Boxed W2 B4 43 v ∧ KeepsOthers W (W2.setCell ⟨B4, 0, none⟩ v2) ∧ Below base W (W2.setCell ⟨B4, 0, none⟩ v2) ∧ Boxed (W2.setCell ⟨B4, 0, none⟩ v2) B4 43 v2 ∧ (W2.setCell ⟨B4, 0, none⟩ v2).ownsRow base 5 1 v2 m'.length (byteC m') := by
  have h1 : Boxed W2 B4 43 v := Boxed.kept (W := W.drew) hv hR.grow (Boxed.not_row hv (by decide) hrow)
  refine ⟨h1, ?_, ?_, h1.set v2, hR.own.kept (grownBy_setCell' W2 B4 v2) (.inr (Boxed.not_row h1 (by decide) hR.own).symm)⟩
  · refine KeepsOthers.trans (show KeepsOthers W W.drew from ⟨Nat.le_refl _, fun _ _ h _ => h⟩) (KeepsOthers.trans (KeepsOthers.of_grownBy hR.grow fun j o ej hj => ?_) (KeepsOthers.setCell _ _ _))
    rcases hrow.2 with ⟨rfl, _⟩ | ⟨g, cap, cur, rfl, _, hgb, _⟩
    · simp [Value.ownBlock] at ej
    · obtain rfl : g = j := by simpa [Value.ownBlock] using ej
      have hj' : W.heap[g]? = some o := hj
      rw [hgb] at hj'
      cases hj'
      rfl
  · exact (hR.below (B := base) (a := W) (Below.refl _ _).drew hb (fun r e => BRow.lo hrow r e)).setCell (p := ⟨B4, 0, none⟩) h4 _
theorem block_stays {W W' : World} {row : Option Nat} {B : Nat} {cs : Array Value} {T : TypeId} (h : W.heap[B]? = some (.cells cs T (0, 0))) (hg : W.grownBy W' row) (hr : ∀ r, row = some r → ∃ o : Obj, W.heap[r]? = some o ∧ o.isCells = false) : W'.heap[B]? = some (.cells cs T (0, 0)) :=
  (hg.block B (Array.getElem?_eq_some_iff.1 h).1 (fun e => by obtain ⟨o, ho, hc⟩ := hr B e.symm; rw [h] at ho; cases ho; cases hc)).trans h
/-- a round's frame: the loop's variable in a box of its own -/
def AxS (n₀ : Nat) (frm : S2 → Nat → Act) (s : S2) (a' : Act) (W : World) : Prop := ∃ Bx, n₀ < Bx ∧ W.heap[Bx]? = some (.cells #[.int .i64 s.o, .int .i64 s.p] 31 (0, 0)) ∧ a' = frm s Bx
theorem AxS.own (B n₀ : Nat) (frm : S2 → Nat → Act) (s : S2) (a' : Act) : OwnFrom B (fun (_ : Unit) W => AxS n₀ frm s a' W) := fun _ X Y row hs hg hr => by
  obtain ⟨Bx, h1, h2, h3⟩ := hs
  exact ⟨Bx, h1, block_stays h2 hg (fun r e => (hr r e).2), h3⟩

attribute [local go_sem] Oper.semAt_some

set_option maxRecDepth 100000 in
set_option maxHeartbeats 8000000 in
theorem Bytes_ok {w : World} {base g : Nat} {st : Int} {l : List S2} {v : Value} (h : IxAt w base g st l v) (h1 : 1 ≤ st) (h2 : st ≤ 16777216) (hn : l.length ≤ 8000) :
    Calls Try.prog 16 #[.pointer (some ⟨g, 0, none⟩)] w fun e w' => ∃ v', e = .returned (.tuple #[v', .int .i64 0]) ∧ w'.ownsRow w.heap.size 5 1 v' (bytesL st l).length (byteC (bytesL st l)) ∧ Below w.heap.size w w' := by
  obtain ⟨sn, rfl⟩ := Int.eq_ofNat_of_zero_le (show 0 ≤ st by omega)
  have HN := hide (none_ok h.box)
  have q0 : (((sn : Nat) : Int) == 0) = false := beq_eq_false_iff_ne.2 (by omega)
  rw [q0] at HN
  have c0 := h.box.cell0
  have c1 := h.box.cell1
  obtain ⟨ao, cap, rfl, _, hnil, hs, hlo⟩ := h.own.any
  have HX := hide h
  have hw1 : IntKind.u64.wrap (sn : Int) = (sn : Int) := by rw [IntKind.wrap_u64]; omega
  have hw2 : IntKind.u64.wrap (l.length : Int) = (l.length : Int) := by rw [IntKind.wrap_u64]; omega
  have HP1 := hide (fun (W : World) (hb : Below w.heap.size w W) => put4_nil w.heap.size sn W hb.size)
  have HP2 := hide (fun (W2 : World) (u : Value) (ho : W2.ownsRow w.heap.size 5 1 u (numL sn 4).length (byteC (numL sn 4))) (hs : w.heap.size ≤ W2.heap.size) => put4_ok w.heap.size u (numL sn 4) l.length (by simp) W2 hs ho)
  have HG := hide h.box.lt
  have HSX : Hid (∀ W, Below w.heap.size w W → W.cell? ⟨g, 0, none⟩ = some (.int .i64 (sn : Nat)) ∧ W.cell? ⟨g, 1, none⟩ = some (.slice ao l.length cap)) := hide (fun W hb => ⟨(hb.cell (p := ⟨g, 0, none⟩) HG.out).trans c0, (hb.cell (p := ⟨g, 1, none⟩) HG.out).trans c1⟩)
  have HHL : Hid (bytesL (sn : Nat) l = numL sn 4 ++ numL l.length 4 ++ spotsB l) := hide (by unfold bytesL; rw [u64N_nat sn (by omega)])
  refine (callsIn_wide (n := 4)).1 ?_
  refine callsIn_of_wp_marks Try.func16 rfl trivial ?_
  simp only [Try.ntmps16, List.size_toArray, List.length_cons, List.length_nil, Nat.reduceAdd, Nat.reduceSub, Array.replicate_succ, Array.replicate_zero, List.push_toArray, List.append_toArray, List.nil_append, List.cons_append]
  gi_wp2_with fail
  refine ⟨trivial, (callsIn_wide.2 HN.out).mono ?_⟩
  rintro e w' ⟨rfl, rfl⟩
  clear HN q0
  gi_wp2_with fail
  refine wpIn_wide.2 ?_
  go_cut [4] from 8 to 20 (fun p wc => ∃ B4 u, p = .pointer (some ⟨B4, 0, none⟩) ∧ Hid (BY w base g (sn : Nat) l (.slice ao l.length cap) B4 u (numL sn 4 ++ numL l.length 4) wc))
  case first =>
    clear h hs hnil hlo HHL
    go_region_held3 (fun W => W.cell? ⟨g, 0, none⟩ = some (.int .i64 (sn : Nat)) ∧ W.cell? ⟨g, 1, none⟩ = some (.slice ao l.length cap))
      (first
        | exact HSX.out _ (HB3.out.setCell (p := ⟨w2.heap.size, 0, none⟩) HB2.out.size _)
        | exact HSX.out _ (HB3.out.setCell (p := ⟨w.heap.size, 0, none⟩) (Nat.le_refl _) _)
        | exact HSX.out _ HB3.out
        | exact HSX.out _ (HB3.out.alloc HB3.out.size _)
        | exact HSX.out _ HB2.out
        | exact HSX.out _ (HB2.out.alloc HB2.out.size _)
        | exact HSX.out _ (Below.refl _ _).drew
        | exact HSX.out _ ((Below.refl _ _).alloc (Nat.le_refl _) _).drew
        | exact HSX.out _ ((Below.refl _ _).drew.alloc (Nat.le_refl _) _)
        | fail)
      (first
        | (go_at_call 35; with_reducible refine (HP1.out _ (by first | exact (Below.refl _ _).drew | exact ((Below.refl _ _).alloc (Nat.le_refl _) _).drew | fail)).mono ?_; rintro e w2 ⟨u1, rfl, hR1⟩; have HR1 := hide hR1; have HB2 : Hid (Below w.heap.size w w2) := hide (hR1.below (by first | exact (Below.refl _ _).drew | exact ((Below.refl _ _).alloc (Nat.le_refl _) _).drew | fail) (by simp) (by intro r e; cases e)); (try have HBX := hide hR1.box0); clear hR1)
        | (go_at_call 35; with_reducible refine (HP2.out _ u1 (by first | exact HR1.out.own | exact (HR1.out.alloc _).own | fail) (by first | exact HB2.out.size | exact (HB2.out.alloc HB2.out.size _).size | fail)).mono ?_; rintro e w3 ⟨u2, rfl, hR2⟩; obtain ⟨g2, cap2, rfl, _, _⟩ := hR2.own.form (by simp); rw [show (numL sn 4 ++ numL l.length 4).length = 8 from by simp] at hR2; have HR2 := hide hR2; have HB3 : Hid (Below w.heap.size w w3) := hide (hR2.below (by first | exact HB2.out | exact HB2.out.alloc HB2.out.size _ | fail) (by first | exact HB2.out.size | exact (HB2.out.alloc HB2.out.size _).size | fail) (fun r e => BRow.lo HR1.out.own r e)); (first | (have HBY := hide (BRow.boxK HBX.out HR1.out hR2); have k1 := HBY.out.cell; have f1 := HBY.out.frozen) | (have HBY := hide (HR1.out.box1 hR2); have k1 := HBY.out.cell; have f1 := HBY.out.frozen) | skip); clear hR2)
        | fail)
    all_goals
      go_wp2_with fail
      go_meet
      first
        | exact ⟨_, _, rfl, hide (BY.ofAlloc HB3.out HR2.out)⟩
        | exact ⟨_, _, rfl, hide (BY.ofSet HB3.out HBY.out HB2.out.size HR2.out)⟩
        | exact ⟨_, _, rfl, hide (BY.ofSet HB3.out HBY.out (Nat.le_refl _) HR2.out)⟩
  case rest =>
    obtain ⟨B4, u, rfl, HY⟩ := hcut
    obtain ⟨d0, d1⟩ := HSX.out wc HY.out.bel
    gi_wp2_with fail
    refine ⟨trivial, (callsIn_wide.2 (Values_ok ao l.length cap wc)).mono ?_⟩
    rintro e w4 ⟨rfl, rfl⟩
    gi_wp2_with fail
    obtain ⟨W0, hW0⟩ : ∃ W0, W0 = wc.alloc (.cells #[.slice ao l.length cap] 39) := ⟨_, rfl⟩
    have hsz0 : W0.heap.size = wc.heap.size + 1 := by rw [hW0]; simp
    have hB0 : Below w.heap.size w W0 := by rw [hW0]; exact HY.out.bel.alloc HY.out.bel.size _
    have cB : W0.cell? ⟨wc.heap.size, 0, none⟩ = some (.slice ao l.length cap) := by rw [hW0]; exact (Boxed.new wc _ _).cell
    have bO : Boxed W0 B4 43 u := by rw [hW0]; exact HY.out.box.alloc _
    have rO : W0.ownsRow w.heap.size 5 1 u (numL sn 4 ++ numL l.length 4 ++ spotsB []).length (byteC (numL sn 4 ++ numL l.length 4 ++ spotsB [])) := by rw [hW0]; simpa [spotsB] using HY.out.row.alloc _
    have hB4 : w.heap.size ≤ B4 := HY.out.lo
    rw [← hW0]
    clear hW0 HY d0 d1
    have hhd : (numL sn 4 ++ numL l.length 4).length = 8 := by simp
    have HHD := hide hhd
    obtain ⟨hd, hhd2⟩ : ∃ hd, hd = numL sn 4 ++ numL l.length 4 := ⟨_, rfl⟩
    rw [← hhd2] at HHD HHL rO
    clear hhd hhd2
    generalize wc.heap.size = Bv at *
    clear wc
    have hl8 : l.length ≤ 1000000 := by omega
    refine wpIn_rangeFunc_ownH rfl (by omega) (gf := 41) (lb := #[.pointer (some ⟨Bv, 0, none⟩)]) rfl trivial (enters_of Try.func41 (by kernel_rfl) rfl)
      (values_stops2 3 (by omega) Bv w.heap.size ao cap l hl8 (fun b off e => (hlo b off e).2.1) W0 hB0.size cB (hs.below hB0 (Nat.le_refl _)))
      belowK_t (belowK_b hB0.size) (Below.refl _ _) (fun _ => rfl)
      (fun pre W => (∃ v, Boxed W B4 43 v ∧ W.ownsRow w.heap.size 5 1 v (hd ++ spotsB pre).length (byteC (hd ++ spotsB pre)) ∧ True) ∧ Below w.heap.size w W)
      (fun _ _ _ => False)
      (OwnFrom.and (Own.from (holdsRow_own w.heap.size B4 43 5 1 (fun pre => (hd ++ spotsB pre).length) (fun pre => byteC (hd ++ spotsB pre)) (fun _ _ => True)) _) (ownFrom_below (Nat.le_refl _) hB0.size))
      (fun _ _ _ _ _ hs _ _ => hs)
      ⟨⟨_, bO, rO, trivial⟩, hB0⟩
      (AxS w.heap.size ?frm) (AxS.own _ _ _)
      ?assign ?body ?done ?stop
    case assign =>
      rintro l pre s W K ⟨⟨v, hv1, hv2, _⟩, hB⟩ hK
      obtain ⟨so, hso⟩ : ∃ y, y = s.o := ⟨_, rfl⟩
      gi_wp2
      have hlt := hv1.lt
      have hnb := heap_alloc_new W (.cells #[.int .i64 s.o, .int .i64 s.p] 31)
      refine hK _ _ ((KeepsOthers.alloc _ _).from _) ((Below.refl _ W).alloc hB.size _) ⟨⟨v, hv1.alloc _, hv2.alloc _, trivial⟩, hB.alloc hB.size _⟩ ⟨W.heap.size, by omega, hnb, ?_⟩
      generalize W.heap.size = Bx
      rfl
    case body =>
      rintro l0 pre s a' W hl ⟨r, hr⟩ ⟨⟨v, hv, hrow, _⟩, hB⟩ ⟨Bx, hBx, bX, rfl⟩ hlt
      dsimp only
      have x0 : W.cell? ⟨Bx, 0, none⟩ = some (.int .i64 s.o) := by rw [cell_of_row _ _ _ _ _ _ bX]; rfl
      have x1 : W.cell? ⟨Bx, 1, none⟩ = some (.int .i64 s.p) := by rw [cell_of_row _ _ _ _ _ _ bX]; rfl
      have hwo := u64N_wrap s.o
      have hwp := u64N_wrap s.p
      have hsn : hd ++ spotsB (pre ++ [s]) = hd ++ spotsB pre ++ numL (u64N s.o) 8 ++ numL (u64N s.p) 4 := by rw [spotsB_snoc]; unfold spotB; simp only [List.append_assoc]
      have HSN := hide hsn
      have hlen : (hd ++ spotsB pre).length ≤ 99000 := by rw [List.length_append, HHD.out, spotsB_length]; omega
      clear hsn
      generalize hd ++ spotsB pre = m at *
      have h63 : ∃ (g0 : Option Addr) (n0 c0 : Nat), v = .slice g0 n0 c0 := by
        rcases hrow.2 with ⟨rfl, _⟩ | ⟨g0, c0, _, rfl, _⟩
        · exact ⟨_, _, _, rfl⟩
        · exact ⟨_, _, _, rfl⟩
      have HC1 := hide (fun (W1 : World) (hb : w.heap.size ≤ W1.heap.size) (ho : W1.ownsRow w.heap.size 5 1 v m.length (byteC m)) => put8_ok w.heap.size v m (u64N s.o) (by omega) W1 hb ho)
      have HC2 := hide (fun (W1 : World) (v1 : Value) (hb : w.heap.size ≤ W1.heap.size) (ho : W1.ownsRow w.heap.size 5 1 v1 (m ++ numL (u64N s.o) 8).length (byteC (m ++ numL (u64N s.o) 8))) => put4_ok w.heap.size v1 (m ++ numL (u64N s.o) 8) (u64N s.p) (by rw [List.length_append, numL_length]; omega) W1 hb ho)
      obtain ⟨g0, n0, cp0, rfl⟩ := h63
      have cV := hv.cell
      gi_wp2_with fail
      refine region_round_held (fun W' => W'.cell? ⟨Bx, 0, none⟩ = some (.int .i64 s.o) ∧ W'.cell? ⟨Bx, 1, none⟩ = some (.int .i64 s.p)) (by rintro ⟨_, _, h⟩; exact h) (by kernel_rfl) (by kernel_rfl) ⟨x0, x1⟩ (fun hHeld => ?_)
      refine wpAnyH_take (i := 1) (v := ?val1) rfl (by kernel_rfl) (by kernel_rfl) (by kernel_rfl) (fun _ _ _ h => h) (Or.inl ⟨by rfl, ?y1⟩) hHeld ?_
      case y1 =>
        intro w hSw
        obtain ⟨y0, y1⟩ := hSw
        go_simp
        try with_reducible rfl
      try simp only [Act.put, List.setIfInBounds_toArray, List.set_cons_zero, List.set_cons_succ]
      refine wpAnyH_take (i := 2) (v := ?val2) rfl (by kernel_rfl) (by kernel_rfl) (by kernel_rfl) (fun _ _ _ h => h) (Or.inl ⟨by rfl, ?y2⟩) hHeld ?_
      case y2 =>
        intro w hSw
        obtain ⟨y0, y1⟩ := hSw
        go_simp
        try with_reducible rfl
      try simp only [Act.put, List.setIfInBounds_toArray, List.set_cons_zero, List.set_cons_succ]
      refine wpAnyH_take (i := 3) (v := ?val3) rfl (by kernel_rfl) (by kernel_rfl) (by kernel_rfl) (fun _ _ _ h => h) (Or.inl ⟨by rfl, ?y3⟩) hHeld ?_
      case y3 =>
        intro w hSw
        obtain ⟨y0, y1⟩ := hSw
        go_simp
        try with_reducible rfl
      try simp only [Act.put, List.setIfInBounds_toArray, List.set_cons_zero, List.set_cons_succ]
      refine wpAnyH_take (i := 5) (v := ?val5) rfl (by kernel_rfl) (by kernel_rfl) (by kernel_rfl) (fun _ _ _ h => h) (Or.inl ⟨by rfl, ?y5⟩) hHeld ?_
      case y5 =>
        intro w hSw
        obtain ⟨y0, y1⟩ := hSw
        go_simp
        try with_reducible rfl
      try simp only [Act.put, List.setIfInBounds_toArray, List.set_cons_zero, List.set_cons_succ]
      refine wpAnyH_take (i := 6) (v := ?val6) rfl (by kernel_rfl) (by kernel_rfl) (by kernel_rfl) (fun _ _ _ h => h) (Or.inl ⟨by rfl, ?y6⟩) hHeld ?_
      case y6 =>
        intro w hSw
        obtain ⟨y0, y1⟩ := hSw
        go_simp
        try with_reducible rfl
      try simp only [Act.put, List.setIfInBounds_toArray, List.set_cons_zero, List.set_cons_succ]
      refine wpAnyH_take (i := 7) (v := ?val7) rfl (by kernel_rfl) (by kernel_rfl) (by kernel_rfl) (fun _ _ _ h => h) (Or.inl ⟨by rfl, ?y7⟩) hHeld ?_
      case y7 =>
        intro w hSw
        obtain ⟨y0, y1⟩ := hSw
        go_simp
        try with_reducible rfl
      try simp only [Act.put, List.setIfInBounds_toArray, List.set_cons_zero, List.set_cons_succ]
      refine wpAnyH_ready (rs := [0]) (by kernel_rfl) (by simp) ?_
      refine AllReadyH.cons rfl (fun K hK => ?_) AllReadyH.nil
      go_simp
      refine hK.out _ _ ⟨x0, x1⟩ (fun hHeld => ?_)
      clear hK K
      try simp only [Act.put, List.setIfInBounds_toArray, List.set_cons_zero, List.set_cons_succ]
      refine wpAnyH_ready (rs := [4]) (by kernel_rfl) (by simp) ?_
      refine AllReadyH.cons rfl (fun K hK => ?_) AllReadyH.nil
      go_simp
      refine (HC1.out W.drew hB.size hrow).mono ?_
      rintro e W1 ⟨v1, rfl, hR1⟩
      have z0 : W1.cell? ⟨Bx, 0, none⟩ = some (.int .i64 s.o) := hR1.grow.cell (w := W.drew) x0 (cells_not_row bX (by decide) hrow)
      have z1 : W1.cell? ⟨Bx, 1, none⟩ = some (.int .i64 s.p) := hR1.grow.cell (w := W.drew) x1 (cells_not_row bX (by decide) hrow)
      have bX1 : W1.heap[Bx]? = some (.cells #[.int .i64 s.o, .int .i64 s.p] 31 (0, 0)) := (hR1.grow.block Bx (Array.getElem?_eq_some_iff.1 bX).1 (cells_not_row bX (by decide) hrow)).trans bX
      refine hK.out _ _ ⟨z0, z1⟩ (fun hHeld => ?_)
      clear hK K
      try simp only [Act.put, List.setIfInBounds_toArray, List.set_cons_zero, List.set_cons_succ]
      refine wpAnyH_ready (rs := [8]) (by kernel_rfl) (by simp) ?_
      refine AllReadyH.cons rfl (fun K hK => ?_) AllReadyH.nil
      go_simp
      refine (HC2.out W1 v1 (Nat.le_trans hB.size hR1.grow.size) hR1.own).mono ?_
      rintro e W2 ⟨v2, rfl, hR2⟩
      obtain ⟨g2, cp2, rfl, _, _⟩ := hR2.own.form (by simp)
      have bX2 : W2.heap[Bx]? = some (.cells #[.int .i64 s.o, .int .i64 s.p] 31 (0, 0)) := (hR2.grow.block Bx (Array.getElem?_eq_some_iff.1 bX1).1 (cells_not_row bX1 (by decide) hR1.own)).trans bX1
      have y0 : W2.cell? ⟨Bx, 0, none⟩ = some (.int .i64 s.o) := by rw [cell_of_row _ _ _ _ _ _ bX2]; rfl
      have y1 : W2.cell? ⟨Bx, 1, none⟩ = some (.int .i64 s.p) := by rw [cell_of_row _ _ _ _ _ _ bX2]; rfl
      obtain ⟨e1, e2, e3, e4, e5⟩ := body_end hv hrow (hR1.trans hR2) hB4 hB.size
      have bX3 : (W2.setCell ⟨B4, 0, none⟩ (.slice (some ⟨g2, 0, none⟩) (m ++ numL (u64N s.o) 8 ++ numL (u64N s.p) 4).length cp2)).heap[Bx]? = some (.cells #[.int .i64 s.o, .int .i64 s.p] 31 (0, 0)) := (Below.heap_setCell _ _ _ Bx (fun e => by
        have e' : Bx = B4 := e
        subst e'
        have := (show W2.heap[Bx]? = _ from e1).symm.trans bX2
        simp at this)).trans bX2
      have t0 := cell_of_row _ Bx 0 _ _ _ bX3
      have t1 := cell_of_row _ Bx 1 _ _ _ bX3
      clear bX1 bX2 bX3
      refine hK.out _ _ ⟨y0, y1⟩ (fun hHeld => ?_)
      clear hK K
      try simp only [Act.put, List.setIfInBounds_toArray, List.set_cons_zero, List.set_cons_succ]
      have k1 := e1.cell
      have f1 := e1.frozen
      refine wpAnyH_ready (rs := [9]) (by kernel_rfl) (by simp) ?_
      refine AllReadyH.cons rfl (fun K hK => ?_) AllReadyH.nil
      generalize hsl : (m ++ numL (u64N s.o) 8 ++ numL (u64N s.p) 4).length = nl at *
      go_simp
      refine hK.out _ _ ⟨t0, t1⟩ (fun hHeld => ?_)
      clear hK K
      try simp only [Act.put, List.setIfInBounds_toArray, List.set_cons_zero, List.set_cons_succ]
      refine wpAnyH_done (by kernel_rfl) ?_ _
      exact ⟨e2.from _, e3, ⟨_, e4, by rw [HSN.out, hsl]; exact e5, trivial⟩, hB.trans e3⟩
    case stop => exact fun D c pre W _ _ hf _ => hf.elim
    case done =>
      rintro D xs W hD hxs ⟨⟨v2, hv, hrow, _⟩, hB⟩ hK
      rw [hxs] at hrow
      clear hxs
      have HR := hide hrow
      have cV := hv.cell
      have HB := hide hB
      have HK := hide hK
      have HD : Hid (w.heap.size ≤ D) := hide (Nat.le_trans hB0.size hD)
      clear hrow hB hK hD hs hlo hnil h
      gi_wp2_with fail
      refine ⟨by simp, .inl ⟨_, _, rfl, run_takeDeferred HK.out, ?_⟩⟩
      refine ⟨.tuple #[v2, .int .i64 0], (by simp [results, Try.results16, go_sem]), ?_⟩
      refine ⟨v2, rfl, ?_, ?_⟩
      · rw [HHL.out]
        exact ownsRow_putObj HR.out _ HK.out rfl
      · exact HB.out.trans ((Below.refl w.heap.size _).grown (grownBy_putObj' _ D (.deferred none)) HB.out.size (by intro k e; cases e; exact HD.out))
end Go.Proofs.Ythbknahmmegcdaa
