/- Walk of index.Read. -/
import Derived.Test.YthbknahmmegcdaaIxGet
import Derived.Test.YthbknahmmegcdaaIxKnown
import Derived.WalkMore
import Derived.Deep.Cut
namespace Go.Proofs.Ythbknahmmegcdaa
open Go.RowKit Go.Shelf
set_option linter.unusedVariables false

/-- the k-th spot that the bytes tell -/
def spotAt (f : Nat → Nat) (k : Nat) : S2 := ⟨((min (valF f (8 + 12 * k) 8) 4611686018427387904 : Nat) : Int), (valF f (8 + 12 * k + 8) 4 : Nat)⟩
/-- the first k spots, each added; none: one can't be -/
def readS (f : Nat → Nat) (st : Int) : Nat → Option (List S2)
  | 0 => some []
  | k + 1 => match readS f st k with
    | none => none
    | some l => if addB st l (spotAt f k) then some (l ++ [spotAt f k]) else none
/-- what n bytes are read as -/
def readF (f : Nat → Nat) (n : Nat) : Option (Int × List S2) :=
  if n < 8 then none
  else if valF f 0 4 < 1 ∨ 16777216 < valF f 0 4 then none
  else if (n - 8) % 12 ≠ 0 ∨ valF f 4 4 ≠ (n - 8) / 12 then none
  else (readS f (valF f 0 4 : Nat) ((n - 8) / 12)).map fun l => ((valF f 0 4 : Nat), l)
theorem readS_none {f : Nat → Nat} {st : Int} {k : Nat} (h : readS f st k = none) : ∀ m, k ≤ m → readS f st m = none := by
  intro m hm
  induction m with
  | zero =>
    have e : k = 0 := by omega
    rw [e] at h
    exact h
  | succ m ih =>
    by_cases e : k = m + 1
    · rw [← e]; exact h
    · simp only [readS, ih (by omega)]
theorem readS_len {f : Nat → Nat} {st : Int} : ∀ {k : Nat} {l : List S2}, readS f st k = some l → l.length = k ∧ (l.length ≠ 0 → 0 ≤ (lastS l).p)
  | 0, l, h => by
    simp only [readS, Option.some.injEq] at h
    subst h
    exact ⟨rfl, fun h => absurd rfl h⟩
  | k + 1, l, h => by
    simp only [readS] at h
    split at h
    · cases h
    · rename_i l0 h0
      split at h
      · simp only [Option.some.injEq] at h
        subst h
        refine ⟨by rw [List.length_append, (readS_len h0).1]; rfl, fun _ => ?_⟩
        have : lastS (l0 ++ [spotAt f k]) = spotAt f k := by simp [lastS]
        rw [this]
        exact Int.natCast_nonneg _
      · cases h

/-- the rest of the bytes, in its box -/
structure RD (w0 : World) (Bb : Nat) (f : Nat → Nat) (n0 o : Nat) (W : World) : Prop where
  bel : Below w0.heap.size w0 W
  lo : w0.heap.size ≤ Bb
  le : o ≤ n0
  box : ∃ a c, n0 - o ≤ c ∧ Boxed W Bb 43 (.slice a (n0 - o) c) ∧ CellsAt w0 a (n0 - o) (fun j => .int .u8 (f (o + j) : Nat))
theorem RD.call {w0 W W' : World} {Bb n0 o : Nat} {f : Nat → Nat} (h : RD w0 Bb f n0 o W) (hB : Below W.heap.size W W') : RD w0 Bb f n0 o W' := by
  obtain ⟨a, c, h1, h2, h3⟩ := h.box
  exact ⟨h.bel.trans (hB.mono h.bel.size), h.lo, h.le, a, c, h1, (hB.block Bb h2.lt).trans h2, h3⟩
theorem RD.get {w0 W : World} {Bb n0 o n : Nat} {f : Nat → Nat} (h : RD w0 Bb f n0 o W) (hf : ∀ j, f j < 256) (hn : n ≤ 8) (hno : o + n ≤ n0) (h0 : n0 ≤ 100000) :
    Calls Try.prog 36 #[.int .i64 (n : Nat), .pointer (some ⟨Bb, 0, none⟩)] W fun e w' => e = .returned (.int .u64 (valF f o n : Nat)) ∧ RD w0 Bb f n0 (o + n) w' ∧ ∃ x, w' = W.setCell ⟨Bb, 0, none⟩ x := by
  obtain ⟨a, c, h1, h2, h3⟩ := h.box
  refine (get_ok n hn f o hf Bb a (n0 - o) c w0 W (by omega) (by omega) h1 h2 h3 h.bel).mono ?_
  rintro e w' ⟨rfl, a2, c2, h4, h5, rfl⟩
  refine ⟨rfl, ⟨h.bel.setCell (p := ⟨Bb, 0, none⟩) h.lo _, h.lo, hno, a2, c2, by omega, ?_, ?_⟩, _, rfl⟩
  · rw [show n0 - (o + n) = n0 - o - n by omega]
    exact h2.set _
  · rw [show n0 - (o + n) = n0 - o - n by omega]
    exact h5
/-- beside it an index -/
structure RX (w0 : World) (Bb : Nat) (f : Nat → Nat) (n0 o g : Nat) (st : Int) (l : List S2) (W : World) : Prop where
  rd : RD w0 Bb f n0 o W
  glo : w0.heap.size ≤ g
  ix : ∃ v, IxAt W w0.heap.size g st l v
theorem RX.ne {w0 W : World} {Bb n0 o g : Nat} {f : Nat → Nat} {st : Int} {l : List S2} (h : RX w0 Bb f n0 o g st l W) : g ≠ Bb := by
  intro e
  subst e
  obtain ⟨v, hv⟩ := h.ix
  obtain ⟨a, c, _, h2, _⟩ := h.rd.box
  have := (show W.heap[g]? = _ from h2).symm.trans hv.box
  simp at this
theorem RX.get {w0 W : World} {Bb n0 o n g : Nat} {f : Nat → Nat} {st : Int} {l : List S2} (h : RX w0 Bb f n0 o g st l W) (hf : ∀ j, f j < 256) (hn : n ≤ 8) (hno : o + n ≤ n0) (h0 : n0 ≤ 100000) :
    Calls Try.prog 36 #[.int .i64 (n : Nat), .pointer (some ⟨Bb, 0, none⟩)] W fun e w' => e = .returned (.int .u64 (valF f o n : Nat)) ∧ RX w0 Bb f n0 (o + n) g st l w' := by
  have hne := h.ne
  obtain ⟨v, hv⟩ := h.ix
  obtain ⟨a, c, _, h2, _⟩ := h.rd.box
  refine (h.rd.get hf hn hno h0).mono ?_
  rintro e w' ⟨rfl, h1, x, rfl⟩
  refine ⟨rfl, h1, h.glo, v, (Below.heap_setCell _ _ _ g hne).trans hv.box, hv.own.kept (grownBy_setCell' W Bb x) (.inr (Boxed.not_row h2 (by decide) hv.own).symm)⟩
theorem RX.add {w0 W : World} {Bb n0 o g : Nat} {f : Nat → Nat} {st : Int} {l : List S2} (h : RX w0 Bb f n0 o g st l W) (hst : st ≠ 0) (hn : l.length ≤ 1000000) (hlo : l.length ≠ 0 → 0 ≤ (lastS l).p) (s : S2) :
    Calls Try.prog 10 #[.pointer (some ⟨g, 0, none⟩), .agg (spotV s)] W fun e w' => e = .returned (.tuple #[.bool (addB st l s), .int .i64 (addE l s)]) ∧ RX w0 Bb f n0 o g st (addL st l s) w' := by
  have hne := h.ne
  obtain ⟨v, hv⟩ := h.ix
  obtain ⟨a, c, h1, h2, h3⟩ := h.rd.box
  refine (Add_ok hv hst hn hlo h.rd.bel.size s).mono ?_
  rintro e w' ⟨v', rfl, k1, k2, _⟩
  exact ⟨rfl, ⟨k2.below h.rd.bel h.rd.bel.size h.glo (own_lt hv.own), h.rd.lo, h.rd.le, a, c, h1, (k2.block Bb h2.lt (Ne.symm hne) (Boxed.not_row h2 (by decide) hv.own)).trans h2, h3⟩, h.glo, v', k1⟩
theorem RD.get4 {w0 W : World} {Bb n0 o : Nat} {f : Nat → Nat} (h : RD w0 Bb f n0 o W) (hf : ∀ j, f j < 256) (hno : o + 4 ≤ n0) (h0 : n0 ≤ 100000) :
    Calls Try.prog 36 #[.int .i64 4, .pointer (some ⟨Bb, 0, none⟩)] W fun e w' => e = .returned (.int .u64 (valF f o 4 : Nat)) ∧ RD w0 Bb f n0 (o + 4) w' := (h.get (n := 4) hf (by omega) hno h0).mono (fun e w' ⟨h1, h2, _⟩ => ⟨h1, h2⟩)
theorem RX.get4 {w0 W : World} {Bb n0 o g : Nat} {f : Nat → Nat} {st : Int} {l : List S2} (h : RX w0 Bb f n0 o g st l W) (hf : ∀ j, f j < 256) (hno : o + 4 ≤ n0) (h0 : n0 ≤ 100000) :
    Calls Try.prog 36 #[.int .i64 4, .pointer (some ⟨Bb, 0, none⟩)] W fun e w' => e = .returned (.int .u64 (valF f o 4 : Nat)) ∧ RX w0 Bb f n0 (o + 4) g st l w' := h.get (n := 4) hf (by omega) hno h0
theorem RX.get8 {w0 W : World} {Bb n0 o g : Nat} {f : Nat → Nat} {st : Int} {l : List S2} (h : RX w0 Bb f n0 o g st l W) (hf : ∀ j, f j < 256) (hno : o + 8 ≤ n0) (h0 : n0 ≤ 100000) :
    Calls Try.prog 36 #[.int .i64 8, .pointer (some ⟨Bb, 0, none⟩)] W fun e w' => e = .returned (.int .u64 (valF f o 8 : Nat)) ∧ RX w0 Bb f n0 (o + 8) g st l w' := h.get (n := 8) hf (by omega) hno h0
theorem RX.call {w0 W W' : World} {Bb n0 o g : Nat} {f : Nat → Nat} {st : Int} {l : List S2} (h : RX w0 Bb f n0 o g st l W) (hB : Below W.heap.size W W') : RX w0 Bb f n0 o g st l W' := by
  obtain ⟨v, hv⟩ := h.ix
  exact ⟨h.rd.call hB, h.glo, v, hv.call hB⟩
theorem spot_new (W : World) (x y : Int) : (W.alloc (.cells #[.int .i64 x, .int .i64 y] 31)).cell? ⟨W.heap.size, 0, none⟩ = some (.int .i64 x) ∧ (W.alloc (.cells #[.int .i64 x, .int .i64 y] 31)).cell? ⟨W.heap.size, 1, none⟩ = some (.int .i64 y) := by
  have h := heap_alloc_new W (.cells #[.int .i64 x, .int .i64 y] 31)
  exact ⟨by rw [cell_of_row _ _ _ _ _ _ h]; rfl, by rw [cell_of_row _ _ _ _ _ _ h]; rfl⟩
theorem RX.new {w0 W : World} {Bb n0 o : Nat} {f : Nat → Nat} (h : RD w0 Bb f n0 o W) (st : Int) : RX w0 Bb f n0 o W.heap.size st [] (W.alloc (.cells #[.int .i64 st, .slice none 0 0] 55)) :=
  ⟨h.call ((Below.refl _ _).alloc (Nat.le_refl _) _), h.bel.size, _, BoxI.new W st _, ⟨rfl, .inl ⟨rfl, rfl⟩⟩⟩
/-- how many bytes are left -/
def leftB (w : World) (Bb : Nat) : Nat := match w.cell? ⟨Bb, 0, none⟩ with
  | some (.slice _ n _) => n
  | _ => 0
theorem RD.left {w0 W : World} {Bb n0 o : Nat} {f : Nat → Nat} (h : RD w0 Bb f n0 o W) : leftB W Bb = n0 - o := by
  obtain ⟨a, c, _, h2, _⟩ := h.box
  unfold leftB
  rw [h2.cell]

set_option maxHeartbeats 4000000 in
theorem Read_ok (f : Nat → Nat) (hf : ∀ j, f j < 256) (a : Option Addr) (n c : Nat) (w : World) (hn : n ≤ 100000) (hc : n ≤ c) (hs : CellsAt w a n (fun j => .int .u8 (f j : Nat))) :
    Calls Try.prog 17 #[.slice a n c] w fun e w' => Below w.heap.size w w' ∧ (readF f n = none → e = .returned (.tuple #[.pointer none, .int .i64 190])) ∧
      (∀ st l, readF f n = some (st, l) → ∃ g v, e = .returned (.tuple #[.pointer (some ⟨g, 0, none⟩), .int .i64 0]) ∧ w.heap.size ≤ g ∧ IxAt w' w.heap.size g st l v) := by
  obtain ⟨X, hX⟩ : ∃ X, X = readF f n := ⟨_, rfl⟩
  rw [← hX]
  have H0 : Hid (RD w w.heap.size f n 0 (w.alloc (.cells #[.slice a n c] 43))) := hide ⟨(Below.refl _ _).alloc (Nat.le_refl _) _, Nat.le_refl _, Nat.zero_le _, a, c, by omega, Boxed.new w _ _, by simpa using hs⟩
  have cB : (w.alloc (.cells #[.slice a n c] 43)).cell? ⟨w.heap.size, 0, none⟩ = some (.slice a n c) := (Boxed.new w _ _).cell
  clear hs
  by_cases h8 : n < 8
  · as_aux_lemma =>
      have hXn : X = none := by rw [hX]; unfold readF; rw [if_pos h8]
      subst hXn
      have q1 : decide ((n : Int) < 8) = true := decide_eq_true (by omega)
      have q1' : decide (n < 8) = true := decide_eq_true h8
      have HB := hide (H0.out.bel)
      clear hX H0 cB
      go_enter Try.func17, Try.ntmps17
      go_wp2
      go_step3
      go_wp2
      go_step3
      go_wp2
      go_loopw [5] (fun x wr => x = .pointer none ∧ wr = w.alloc (.cells #[.slice a n c] 43)) (fun _ _ => 0)
      case atStart => exact ⟨rfl, rfl⟩
      case round =>
        obtain ⟨rfl, rfl⟩ := hrel
        go_wp2
        rw [Exit.noGoto_ret]
        go_ret2
        exact ⟨HB.out, fun _ => rfl, fun st l h => by cases h⟩
  · have q1 : decide ((n : Int) < 8) = false := decide_eq_false (by omega)
    have q1' : decide (n < 8) = false := decide_eq_false h8
    have h44 := valF_lt hf 4 0
    have hp4 : (256 : Nat) ^ 4 = 4294967296 := by decide
    rw [hp4] at h44
    clear hp4
    have hws : IntKind.i64.wrap ((valF f 0 4 : Nat) : Int) = ((valF f 0 4 : Nat) : Int) := by rw [IntKind.wrap_i64]; omega
    go_enter Try.func17, Try.ntmps17
    go_wp2
    go_step3
    go_wp2
    go_step3
    go_wp2
    go_loopw [5] (fun x wr => x = .pointer none ∧ wr = w.alloc (.cells #[.slice a n c] 43)) (fun _ _ => 0)
    case atStart => exact ⟨rfl, rfl⟩
    case round =>
      obtain ⟨rfl, rfl⟩ := hrel
      go_wp2_with fail
      refine (H0.out.get4 hf (by omega) hn).mono ?_
      rintro e w1 ⟨rfl, hR1⟩
      have HR1 : Hid (RD w w.heap.size f n 4 w1) := hide hR1
      clear hR1 H0 cB
      go_wp2_with fail
      refine (HR1.out.get4 hf (by omega) hn).mono ?_
      rintro e w2 ⟨rfl, hR2⟩
      have HR2 : Hid (RD w w.heap.size f n 8 w2) := hide hR2
      clear hR2 HR1
      go_wp2_with fail
      by_cases hst : ((valF f 0 4 : Nat) : Int) < 1 ∨ 16777216 < ((valF f 0 4 : Nat) : Int)
      · as_aux_lemma =>
          have hXn : X = none := by rw [hX]; unfold readF; rw [if_neg h8, if_pos (by omega)]
          subst hXn
          refine (New_no _ hst w2).mono ?_
          rintro e w' ⟨rfl, rfl⟩
          have HB := hide HR2.out.bel
          clear hX HR2
          go_wp2
          rw [Exit.noGoto_ret]
          go_ret2
          exact ⟨HB.out, fun _ => rfl, fun st l h => by cases h⟩
      · refine (New_ok _ (by omega) (by omega) w2).mono ?_
        rintro e w3 ⟨rfl, rfl⟩
        have HX3 := hide (RX.new HR2.out ((valF f 0 4 : Nat) : Int))
        obtain ⟨a3, c3, hc3, hb3, _⟩ := HX3.out.rd.box
        have cB3 := hb3.cell
        obtain ⟨cnt, hcnt⟩ : ∃ cnt, cnt = valF f 4 4 := ⟨_, rfl⟩
        rw [show valF f (0 + 4) 4 = cnt from hcnt.symm]
        obtain ⟨r, hr⟩ : ∃ r, r = n - 8 := ⟨_, rfl⟩
        rw [← hr] at cB3
        have HR := hide hr
        have HCNT := hide hcnt
        clear hc3 hb3 HR2
        generalize (w2.alloc (.cells #[.int .i64 ((valF f 0 4 : Nat) : Int), .slice none 0 0] 55)) = w3 at *
        generalize w2.heap.size = g at *
        clear hcnt hr
        by_cases hm : r % 12 = 0 ∧ cnt = r / 12
        · as_aux_lemma =>
            obtain ⟨hm1, hm2⟩ := hm
            have hrm : (r : Int) % 12 = 0 := by omega
            have hd1 : wrap64 ((r : Int) / 12) = (cnt : Int) := by have := HR.out; unfold wrap64; omega
            have hd2 : IntKind.u64.wrap (cnt : Int) = (cnt : Int) := by rw [IntKind.wrap_u64]; have := HR.out; omega
            have HRC : Hid (r = 12 * cnt) := hide (by omega)
            have HXX : Hid (X = (readS f ((valF f 0 4 : Nat) : Int) cnt).map fun l => (((valF f 0 4 : Nat) : Int), l)) := hide (by rw [hX]; unfold readF; rw [if_neg h8, if_neg (by omega), if_neg (by rw [← HR.out, ← HCNT.out]; omega), ← HR.out, ← hm2])
            have HST : Hid (((valF f 0 4 : Nat) : Int) ≠ 0) := hide (by omega)
            clear hX hst hm1 hm2 hws h44
            generalize ((valF f 0 4 : Nat) : Int) = st at *
            go_wp2
            clear hrm hd1 hd2 cB3
            go_loopw [] (fun wr => ∃ (k : Nat) (l : List S2), k ≤ cnt ∧ Hid (readS f st k = some l) ∧ Hid (RX w w.heap.size f n (8 + 12 * k) g st l wr)) (fun wr => leftB wr w.heap.size)
            case atStart => exact ⟨0, [], Nat.zero_le _, hide rfl, HX3⟩
            case round =>
              obtain ⟨k, l, hk, HRS, HX4⟩ := hrel
              have hrc := HRC.out
              have hrr := HR.out
              have hkl := readS_len HRS.out
              obtain ⟨a4, c4, hc4, hb4, _⟩ := HX4.out.rd.box
              have cB4 := hb4.cell
              have hleft := HX4.out.rd.left
              by_cases hlt : k < cnt
              · have hq : decide ((0 : Int) < ((n - (8 + 12 * k) : Nat) : Int)) = true := decide_eq_true (by omega)
                have hq' : decide (0 < n - (8 + 12 * k)) = true := decide_eq_true (by omega)
                have HLT := hide hlt
                have h1 : valF f (8 + 12 * k + 8) 4 < 4294967296 := by
                  have h2 := valF_lt hf 4 (8 + 12 * k + 8)
                  have h3 : (256 : Nat) ^ 4 = 4294967296 := by decide
                  rw [h3] at h2
                  exact h2
                have h2 : valF f (8 + 12 * k) 8 < 18446744073709551616 := by
                  have h2 := valF_lt hf 8 (8 + 12 * k)
                  have h3 : (256 : Nat) ^ 8 = 18446744073709551616 := by decide
                  rw [h3] at h2
                  exact h2
                have hsp : spotAt f k = ⟨((min (valF f (8 + 12 * k) 8) 4611686018427387904 : Nat) : Int), (valF f (8 + 12 * k + 8) 4 : Nat)⟩ := rfl
                have HSP := hide hsp
                have hno : 8 + 12 * k + 8 + 4 ≤ n := by omega
                have HLEFT := hide hleft
                clear hsp hlt hleft hc4 hb4 hrc hrr
                go_wp2_with fail
                refine (HX4.out.get8 hf (by omega) hn).mono ?_
                rintro e w5 ⟨rfl, hX5⟩
                have HX5 := hide hX5
                clear hX5 cB4 hq hq'
                go_upto_region 10 with fail
                go_cut [11] from 49 to 55 (fun p wc => ∃ B, p = .pointer (some ⟨B, 0, none⟩) ∧ Hid (RX w w.heap.size f n (8 + 12 * k + 8 + 4) g st l wc) ∧ wc.cell? ⟨B, 0, none⟩ = some (.int .i64 (spotAt f k).o) ∧ wc.cell? ⟨B, 1, none⟩ = some (.int .i64 (spotAt f k).p))
                case first =>
                  have hw9 : IntKind.i64.wrap ((valF f (8 + 12 * k + 8) 4 : Nat) : Int) = (valF f (8 + 12 * k + 8) 4 : Nat) := by rw [IntKind.wrap_i64]; omega
                  have HG4 := hide (HX5.out.get4 hf hno hn)
                  by_cases hmn : ((valF f (8 + 12 * k) 8 : Nat) : Int) ≤ 4611686018427387904
                  · have e0 : (spotAt f k).o = (valF f (8 + 12 * k) 8 : Nat) := by rw [HSP.out]; dsimp only; omega
                    have e1 : (spotAt f k).p = (valF f (8 + 12 * k + 8) 4 : Nat) := by rw [HSP.out]
                    have E0 := hide e0
                    have E1 := hide e1
                    have hw8 : IntKind.i64.wrap ((valF f (8 + 12 * k) 8 : Nat) : Int) = (valF f (8 + 12 * k) 8 : Nat) := by rw [IntKind.wrap_i64]; omega
                    clear e0 e1 HX4 HRS HSP h1 h2 hkl hno HLEFT
                    generalize valF f (8 + 12 * k) 8 = ov at *
                    generalize valF f (8 + 12 * k + 8) 4 = pv at *
                    go_wp2_with fail
                    refine HG4.out.mono ?_
                    rintro e w6 ⟨rfl, hX6⟩
                    have HX6 := hide hX6
                    clear hX6
                    go_wp2_with fail
                    go_meet
                    case rel =>
                      obtain ⟨s0, s1⟩ := spot_new w6 ov pv
                      exact ⟨_, rfl, hide (HX6.out.call ((Below.refl _ _).alloc (Nat.le_refl _) _)), by rw [E0.out]; exact s0, by rw [E1.out]; exact s1⟩
                  · have e0 : (spotAt f k).o = 4611686018427387904 := by rw [HSP.out]; dsimp only; omega
                    have e1 : (spotAt f k).p = (valF f (8 + 12 * k + 8) 4 : Nat) := by rw [HSP.out]
                    have E0 := hide e0
                    have E1 := hide e1
                    clear e0 e1 HX4 HRS HSP h1 h2 hkl hno HLEFT
                    generalize valF f (8 + 12 * k) 8 = ov at *
                    generalize valF f (8 + 12 * k + 8) 4 = pv at *
                    go_wp2_with fail
                    refine HG4.out.mono ?_
                    rintro e w6 ⟨rfl, hX6⟩
                    have HX6 := hide hX6
                    clear hX6
                    go_wp2_with fail
                    go_meet
                    case rel =>
                      obtain ⟨s0, s1⟩ := spot_new w6 4611686018427387904 pv
                      exact ⟨_, rfl, hide (HX6.out.call ((Below.refl _ _).alloc (Nat.le_refl _) _)), by rw [E0.out]; exact s0, by rw [E1.out]; exact s1⟩
                case rest =>
                  obtain ⟨B, rfl, HX7, c0, c1⟩ := hcut
                  have HADD := hide (HX7.out.add HST.out (by omega) hkl.2 (spotAt f k))
                  have HSU : Hid (readS f st (k + 1) = if addB st l (spotAt f k) then some (l ++ [spotAt f k]) else none) := hide (by simp only [readS, HRS.out])
                  have HKN := hide hno
                  clear HX4 HX5 HX7 HSP h1 h2 hkl hno HRS
                  generalize spotAt f k = s at *
                  obtain ⟨so, sp⟩ := s
                  unfold spotV at HADD
                  dsimp only at c0 c1 HADD
                  by_cases hA : addB st l ⟨so, sp⟩ = true
                  · have hE : addE l ⟨so, sp⟩ = 0 := by
                      unfold addB at hA
                      unfold addE
                      rw [if_pos (by simp at hA; exact hA.1)]
                    have hL : addL st l ⟨so, sp⟩ = l ++ [⟨so, sp⟩] := by unfold addL; rw [if_pos hA]
                    rw [hA, hE, hL] at HADD
                    rw [if_pos hA] at HSU
                    clear hA hE hL
                    go_wp2_with fail
                    refine HADD.out.mono ?_
                    rintro e w8 ⟨rfl, hX8⟩
                    have HX8 := hide hX8
                    clear hX8 c0 c1
                    go_wp2_with fail
                    go_roundw
                    case rel => exact ⟨k + 1, _, HLT.out, HSU, HX8⟩
                    case measure => rw [HX8.out.rd.left, HLEFT.out]; have := HKN.out; omega
                  · have hA' : addB st l ⟨so, sp⟩ = false := by simpa using hA
                    rw [if_neg hA] at HSU
                    have HN : Hid (X = none) := hide (by rw [HXX.out, readS_none HSU.out cnt HLT.out]; rfl)
                    rw [hA'] at HADD
                    by_cases hM : mayB l ⟨so, sp⟩ = true
                    · have hE : addE l ⟨so, sp⟩ = 0 := by unfold addE; rw [if_pos hM]
                      rw [hE] at HADD
                      clear hA hA' hE hM
                      go_wp2_with fail
                      refine HADD.out.mono ?_
                      rintro e w8 ⟨rfl, hX8⟩
                      have HB := hide hX8.rd.bel
                      clear hX8 c0 c1
                      go_wp2_with fail
                      rw [Exit.noGoto_ret]
                      go_ret2
                      exact ⟨HB.out, fun _ => rfl, fun st l h => by rw [HN.out] at h; cases h⟩
                    · have hE : addE l ⟨so, sp⟩ = 2 := by unfold addE; rw [if_neg hM]
                      rw [hE] at HADD
                      clear hA hA' hE hM
                      go_wp2_with fail
                      refine HADD.out.mono ?_
                      rintro e w8 ⟨rfl, hX8⟩
                      have HB := hide hX8.rd.bel
                      clear hX8 c0 c1
                      go_wp2_with fail
                      rw [Exit.noGoto_ret]
                      go_ret2
                      exact ⟨HB.out, fun _ => rfl, fun st l h => by rw [HN.out] at h; cases h⟩
              · obtain rfl : k = cnt := by omega
                have hz : n - (8 + 12 * k) = 0 := by omega
                rw [hz] at cB4
                have HN : Hid (X = some (st, l)) := hide (by rw [HXX.out, HRS.out]; rfl)
                clear hz hb4 hc4 hleft hrc hrr
                go_wp2_with fail
                rw [Exit.noGoto_ret]
                go_ret2
                refine ⟨HX4.out.rd.bel, fun h => (by rw [HN.out] at h; cases h), fun st' l' h => ?_⟩
                rw [HN.out] at h
                injection h with h
                injection h with h1 h2
                subst h1 h2
                obtain ⟨v, hv⟩ := HX4.out.ix
                exact ⟨g, v, rfl, HX4.out.glo, hv⟩
        · as_aux_lemma =>
            have hXn : X = none := by rw [hX]; unfold readF; rw [if_neg h8, if_neg (by omega), if_pos (by rw [← HR.out, ← HCNT.out]; omega)]
            subst hXn
            have HB := hide HX3.out.rd.bel
            clear hX HX3
            by_cases hm1 : r % 12 = 0
            · have hm2 : cnt ≠ r / 12 := fun e => hm ⟨hm1, e⟩
              have hrm : (r : Int) % 12 = 0 := by omega
              have hd1 : wrap64 ((r : Int) / 12) = ((r / 12 : Nat) : Int) := by have := HR.out; unfold wrap64; omega
              have hd2 : IntKind.u64.wrap ((r / 12 : Nat) : Int) = ((r / 12 : Nat) : Int) := by rw [IntKind.wrap_u64]; have := HR.out; omega
              obtain ⟨y, hy⟩ : ∃ y, y = r / 12 := ⟨_, rfl⟩
              rw [← hy] at hd1 hd2 hm2
              clear hy
              have hq : ((cnt : Int) != (y : Int)) = true := by simp; omega
              have hq' : (cnt != y) = true := by simp; omega
              go_wp2
              rw [Exit.noGoto_ret]
              go_ret2
              exact ⟨HB.out, fun _ => rfl, fun st l h => by cases h⟩
            · have hrm : ¬ (r : Int) % 12 = 0 := by omega
              have hq : ((r : Int) % 12 != 0) = true := by simp; omega
              go_wp2
              rw [Exit.noGoto_ret]
              go_ret2
              exact ⟨HB.out, fun _ => rfl, fun st l h => by cases h⟩
end Go.Proofs.Ythbknahmmegcdaa
