/- Walks of keep.in, Check, Ordered, may. -/
import Derived.Test.YtjgdegkjkedfcaaBase
namespace Go.Proofs.Ytjgdegkjkedfcaa
open Go.RowKit

/-- a piece: base, bytes, last -/
structure P3 where
  b : Int
  y : Int
  t : Int
  deriving Inhabited, DecidableEq
/-- a rule: bytes, age, pieces, below -/
structure R4 where
  y : Int
  a : Int
  p : Int
  w : Int
  deriving DecidableEq
/-- from 0 to a bound -/
def inB (x m : Int) : Bool := decide (0 ≤ x) && decide (x ≤ m)
def chkB (r : R4) : Bool := inB r.y 9007199254740992 && (inB r.a 9007199254740992 && (inB r.p 4096 && inB r.w 9007199254740992))
def chkE (r : R4) : Int := if chkB r then 0 else 2
def okP (last : Int) (p : P3) : Bool := !decide (p.b ≤ last) && (inB p.b 9007199254740992 && (inB p.y 16777216 && inB p.t 9007199254740992))
def ordFrom : Int → List P3 → Bool
  | _, [] => true
  | last, p :: r => okP last p && ordFrom p.b r
def ordE (l : List P3) : Int := if 4096 < l.length then 3 else if ordFrom (-1) l then 0 else 2
def mayE (r : R4) (now : Int) (l : List P3) : Int := if chkB r && inB now 9007199254740992 then ordE l else 2

def ruleV (r : R4) : Array Value := #[.int .i64 r.y, .int .i64 r.a, .int .i64 r.p, .int .i64 r.w]
/-- pieces in memory -/
def PcsAt (w : World) (a : Option Addr) (l : List P3) : Prop :=
  ∀ j, j < l.length → ∃ blk off, a = some ⟨blk, off, none⟩ ∧ w.cell? ⟨blk, off + j * 3, none⟩ = some (.int .i64 (l.getD j default).b) ∧ w.cell? ⟨blk, off + j * 3 + 1, none⟩ = some (.int .i64 (l.getD j default).y) ∧ w.cell? ⟨blk, off + j * 3 + 2, none⟩ = some (.int .i64 (l.getD j default).t)
theorem PcsAt.below {w w' : World} {a : Option Addr} {l : List P3} {B : Nat} (h : PcsAt w a l) (hb : Below B w w') (hB : w.heap.size ≤ B) : PcsAt w' a l := by
  intro j hj
  obtain ⟨blk, off, rfl, h1, h2, h3⟩ := h j hj
  have hlt : blk < B := Nat.lt_of_lt_of_le (World.block_lt_of_cell? w _ h1) hB
  exact ⟨blk, off, rfl, (hb.cell (p := ⟨blk, _, none⟩) hlt).trans h1, (hb.cell (p := ⟨blk, _, none⟩) hlt).trans h2, (hb.cell (p := ⟨blk, _, none⟩) hlt).trans h3⟩

theorem in_ok (x m : Int) (w : World) : Calls Try.prog 25 #[.int .i64 x, .int .i64 m] w fun e w' => e = .returned (.bool (inB x m)) ∧ w = w' := by
  unfold inB
  by_cases h1 : 0 ≤ x
  · have d1 : decide (0 ≤ x) = true := decide_eq_true h1
    clear h1
    go_enter Try.func25, Try.ntmps25
    go_wp2
    go_ret
    exact ⟨by rw [d1]; rfl, rfl⟩
  · have d1 : decide (0 ≤ x) = false := decide_eq_false h1
    clear h1
    go_enter Try.func25, Try.ntmps25
    go_wp2
    go_ret
    exact ⟨by rw [d1]; rfl, rfl⟩

theorem Check_ok (r : R4) (w : World) : Calls Try.prog 11 #[.agg (ruleV r)] w fun e w' => e = .returned (.int .i64 (chkE r)) ∧ Below w.heap.size w w' := by
  obtain ⟨y, a, p, b⟩ := r
  have H1 := hide (in_ok y 9007199254740992)
  have H2 := hide (in_ok a 9007199254740992)
  have H3 := hide (in_ok p 4096)
  have H4 := hide (in_ok b 9007199254740992)
  unfold ruleV chkE chkB
  have hB := (Below.refl w.heap.size w).alloc (Nat.le_refl _) (.cells #[.int .i64 y, .int .i64 a, .int .i64 p, .int .i64 b] 29)
  have HB := hide hB
  clear hB
  dsimp only
  generalize inB y 9007199254740992 = q1 at *
  generalize inB a 9007199254740992 = q2 at *
  generalize inB p 4096 = q3 at *
  generalize inB b 9007199254740992 = q4 at *
  cases q1
  · go_enter Try.func11, Try.ntmps11
    go_wp2_with (go_at_call 25; with_reducible refine (H1.out _).mono ?_; rintro e w' ⟨rfl, rfl⟩)
    go_ret
    exact ⟨rfl, HB.out⟩
  · cases q2
    · go_enter Try.func11, Try.ntmps11
      go_wp2_with (first
        | (go_at_call 25; with_reducible refine (H1.out _).mono ?_; rintro e w' ⟨rfl, rfl⟩)
        | (go_at_call 25; with_reducible refine (H2.out _).mono ?_; rintro e w' ⟨rfl, rfl⟩))
      go_ret
      exact ⟨rfl, HB.out⟩
    · cases q3
      · go_enter Try.func11, Try.ntmps11
        go_wp2_with (first
          | (go_at_call 25; with_reducible refine (H1.out _).mono ?_; rintro e w' ⟨rfl, rfl⟩)
          | (go_at_call 25; with_reducible refine (H2.out _).mono ?_; rintro e w' ⟨rfl, rfl⟩)
          | (go_at_call 25; with_reducible refine (H3.out _).mono ?_; rintro e w' ⟨rfl, rfl⟩))
        go_ret
        exact ⟨rfl, HB.out⟩
      · cases q4 <;>
        · go_enter Try.func11, Try.ntmps11
          go_wp2_with (first
            | (go_at_call 25; with_reducible refine (H1.out _).mono ?_; rintro e w' ⟨rfl, rfl⟩)
            | (go_at_call 25; with_reducible refine (H2.out _).mono ?_; rintro e w' ⟨rfl, rfl⟩)
            | (go_at_call 25; with_reducible refine (H3.out _).mono ?_; rintro e w' ⟨rfl, rfl⟩)
            | (go_at_call 25; with_reducible refine (H4.out _).mono ?_; rintro e w' ⟨rfl, rfl⟩))
          go_ret
          exact ⟨rfl, HB.out⟩

theorem drop_cons (l : List P3) (k : Nat) (h : k < l.length) : l.drop k = l.getD k default :: l.drop (k + 1) := by
  rw [List.drop_eq_getElem_cons h]
  congr 1
  simp [List.getD_eq_getElem?_getD, h]

set_option maxHeartbeats 1600000 in
theorem Ordered_ok (a : Option Addr) (c : Nat) (l : List P3) (w : World) (hn : l.length ≤ 9223372036854775807) (hp : PcsAt w a l) :
    Calls Try.prog 9 #[.slice a l.length c] w fun e w' => e = .returned (.int .i64 (ordE l)) ∧ Below w.heap.size w w' := by
  obtain ⟨E, hE⟩ : ∃ E, E = ordE l := ⟨_, rfl⟩
  rw [← hE]
  unfold ordE at hE
  by_cases hbig : 4096 < l.length
  · rw [if_pos hbig] at hE
    have d1 : decide ((4096 : Int) < (l.length : Int)) = true := decide_eq_true (by omega)
    have d1' : decide (4096 < l.length) = true := decide_eq_true hbig
    have HE := hide hE
    clear hbig hp hn hE
    generalize l.length = n at *
    go_enter Try.func9, Try.ntmps9
    go_wp2
    go_ret
    exact ⟨by rw [HE.out] <;> rfl, Below.refl _ _⟩
  · rw [if_neg hbig] at hE
    have d1 : decide ((4096 : Int) < (l.length : Int)) = false := decide_eq_false (by omega)
    have d1' : decide (4096 < l.length) = false := decide_eq_false hbig
    have HP := hide hp
    have HD0 : Hid (ordFrom (-1) l = ordFrom (-1) (l.drop 0)) := hide rfl
    have HDC := hide (drop_cons l)
    have HDE : Hid (∀ last, ordFrom last (l.drop l.length) = true) := hide (fun last => by rw [List.drop_length]; rfl)
    generalize ordFrom (-1) l = res at *
    have HE := hide hE
    have hn' : l.length ≤ 4096 := by omega
    clear hbig hp hn hE
    generalize hnn : l.length = n at *
    have HNN := hide hnn
    clear hnn
    go_enter Try.func9, Try.ntmps9
    go_wp2
    go_loopw [3, 5, 11] (fun x p i wr => ∃ (k : Nat) (last : Int), k ≤ n ∧ i = .int .i64 k ∧ x = .int .i64 last ∧ Hid (res = ordFrom last (l.drop k)) ∧ Hid (Below w.heap.size w wr)) (fun _ _ i _ => n - (intOf i).toNat)
    case atStart => exact ⟨0, -1, by omega, rfl, rfl, HD0, hide (Below.refl _ _)⟩
    case round =>
      obtain ⟨k, last, hk, rfl, rfl, HR, HB⟩ := hrel
      by_cases hlt : k < n
      · have hr : res = (okP last (l.getD k default) && ordFrom (l.getD k default).b (l.drop (k + 1))) := by rw [HR.out, HDC.out k hlt]; rfl
        obtain ⟨blk, off, rfl, c0, c1, c2⟩ := (HP.out.below HB.out (Nat.le_refl _)) k (by rw [HNN.out]; exact hlt)
        generalize l.getD k default = pc at *
        obtain ⟨b, y, t⟩ := pc
        unfold okP at hr
        dsimp only at c0 c1 c2 hr
        have H1 := hide (in_ok b 9007199254740992)
        have H2 := hide (in_ok y 16777216)
        have H3 := hide (in_ok t 9007199254740992)
        have HBA := hide (HB.out.alloc HB.out.size (.cells #[.int .i64 b, .int .i64 y, .int .i64 t] 24))
        obtain ⟨rest, hrest⟩ : ∃ rest, rest = ordFrom b (l.drop (k + 1)) := ⟨_, rfl⟩
        rw [← hrest] at hr
        have HREST := hide hrest
        clear hrest
        generalize inB b 9007199254740992 = q1 at *
        generalize inB y 16777216 = q2 at *
        generalize inB t 9007199254740992 = q3 at *
        by_cases hbl : b ≤ last
        · have d2 : decide (b ≤ last) = true := decide_eq_true hbl
          rw [d2] at hr
          have HRR := hide (show res = false by rw [hr]; rfl)
          clear hr hbl
          go_wp2
          go_ret
          exact ⟨by rw [HE.out, HRR.out] <;> rfl, HBA.out⟩
        have d2 : decide (b ≤ last) = false := decide_eq_false hbl
        rw [d2] at hr
        clear hbl
        cases q1
        · have HRR := hide (show res = false by rw [hr]; rfl)
          clear hr
          go_wp2_with (first
            | (go_at_call 25; with_reducible refine (H1.out _).mono ?_; rintro e w' ⟨rfl, rfl⟩)
            | (go_at_call 25; with_reducible refine (H2.out _).mono ?_; rintro e w' ⟨rfl, rfl⟩)
            | (go_at_call 25; with_reducible refine (H3.out _).mono ?_; rintro e w' ⟨rfl, rfl⟩))
          go_ret
          exact ⟨by rw [HE.out, HRR.out] <;> rfl, HBA.out⟩
        cases q2
        · have HRR := hide (show res = false by rw [hr]; rfl)
          clear hr
          go_wp2_with (first
            | (go_at_call 25; with_reducible refine (H1.out _).mono ?_; rintro e w' ⟨rfl, rfl⟩)
            | (go_at_call 25; with_reducible refine (H2.out _).mono ?_; rintro e w' ⟨rfl, rfl⟩)
            | (go_at_call 25; with_reducible refine (H3.out _).mono ?_; rintro e w' ⟨rfl, rfl⟩))
          go_ret
          exact ⟨by rw [HE.out, HRR.out] <;> rfl, HBA.out⟩
        cases q3
        · have HRR := hide (show res = false by rw [hr]; rfl)
          clear hr
          go_wp2_with (first
            | (go_at_call 25; with_reducible refine (H1.out _).mono ?_; rintro e w' ⟨rfl, rfl⟩)
            | (go_at_call 25; with_reducible refine (H2.out _).mono ?_; rintro e w' ⟨rfl, rfl⟩)
            | (go_at_call 25; with_reducible refine (H3.out _).mono ?_; rintro e w' ⟨rfl, rfl⟩))
          go_ret
          exact ⟨by rw [HE.out, HRR.out] <;> rfl, HBA.out⟩
        · have HRR := hide (show res = rest by rw [hr]; simp)
          clear hr
          go_wp2_with (first
            | (go_at_call 25; with_reducible refine (H1.out _).mono ?_; rintro e w' ⟨rfl, rfl⟩)
            | (go_at_call 25; with_reducible refine (H2.out _).mono ?_; rintro e w' ⟨rfl, rfl⟩)
            | (go_at_call 25; with_reducible refine (H3.out _).mono ?_; rintro e w' ⟨rfl, rfl⟩))
          go_roundw
          case rel => exact ⟨k + 1, b, by omega, by go_num, rfl, hide (HRR.out.trans HREST.out), HBA⟩
          case measure => simp [intOf]; omega
      · obtain rfl : k = n := by omega
        have HRR := hide (show res = true by rw [HR.out, HDE.out])
        go_wp2
        go_ret
        exact ⟨by rw [HE.out, HRR.out] <;> rfl, HB.out⟩

theorem PcsAt.drew {w : World} {a : Option Addr} {l : List P3} (h : PcsAt w a l) : PcsAt w.drew a l := h
/-- the rule that a function has put into memory -/
def BoxR (w : World) (g : Nat) (r : R4) : Prop := w.heap[g]? = some (.cells (ruleV r) 29 (0, 0))
theorem BoxR.lt {w : World} {g : Nat} {r : R4} (h : BoxR w g r) : g < w.heap.size := (Array.getElem?_eq_some_iff.1 h).1
theorem BoxR.same {w w' : World} {g : Nat} {r : R4} (h : BoxR w g r) (hB : Below w.heap.size w w') : BoxR w' g r := (hB.block g h.lt).trans h
theorem BoxR.new (w : World) (r : R4) : BoxR (w.alloc (.cells (ruleV r) 29)) w.heap.size r := heap_alloc_new w _
theorem BoxR.cells {w : World} {g : Nat} {y a p b : Int} (h : BoxR w g ⟨y, a, p, b⟩) :
    w.cell? ⟨g, 0, none⟩ = some (.int .i64 y) ∧ w.cell? ⟨g, 1, none⟩ = some (.int .i64 a) ∧ w.cell? ⟨g, 2, none⟩ = some (.int .i64 p) ∧ w.cell? ⟨g, 3, none⟩ = some (.int .i64 b) := by
  refine ⟨?_, ?_, ?_, ?_⟩ <;> (rw [cell_of_row w g _ _ _ _ h]; rfl)

set_option maxHeartbeats 1600000 in
theorem may_ok (r : R4) (now : Int) (a : Option Addr) (c : Nat) (l : List P3) (w : World) (hn : l.length ≤ 9223372036854775807) (hp : PcsAt w a l) :
    Calls Try.prog 22 #[.agg (ruleV r), .int .i64 now, .slice a l.length c] w fun e w' => e = .returned (.int .i64 (mayE r now l)) ∧ Below w.heap.size w w' := by
  obtain ⟨E, hE⟩ : ∃ E, E = mayE r now l := ⟨_, rfl⟩
  rw [← hE]
  unfold mayE at hE
  have hB0 := (Below.refl w.heap.size w).alloc (Nat.le_refl _) (.cells (ruleV r) 29)
  have HB0 := hide hB0
  have HC := hide (Check_ok r (w.alloc (.cells (ruleV r) 29)))
  have HI := hide (in_ok now 9007199254740992)
  have HO := hide (fun (w' : World) (hB : Below w.heap.size w w') => Ordered_ok a c l w' hn (hp.below hB (Nat.le_refl _)))
  clear hp hB0
  obtain ⟨y, ag, p, b⟩ := r
  unfold chkE at HC
  unfold ruleV at *
  generalize ordE l = o at *
  generalize l.length = n at *
  generalize chkB ⟨y, ag, p, b⟩ = q1 at *
  generalize inB now 9007199254740992 = q2 at *
  cases q1
  · have HE := hide (show E = 2 by rw [hE]; rfl)
    clear hE
    go_enter Try.func22, Try.ntmps22
    go_wp2_with fail
    refine HC.out.mono ?_
    rintro e w1 ⟨rfl, hB1⟩
    go_wp2
    go_ret
    exact ⟨by rw [HE.out] <;> rfl, HB0.out.trans (hB1.mono HB0.out.size)⟩
  · cases q2
    · have HE := hide (show E = 2 by rw [hE]; rfl)
      clear hE
      go_enter Try.func22, Try.ntmps22
      go_wp2_with fail
      refine HC.out.mono ?_
      rintro e w1 ⟨rfl, hB1⟩
      go_wp2_with fail
      refine (HI.out _).mono ?_
      rintro e w2 ⟨rfl, rfl⟩
      go_wp2
      go_ret
      exact ⟨by rw [HE.out] <;> rfl, HB0.out.trans (hB1.mono HB0.out.size)⟩
    · have HE := hide (show E = o by rw [hE]; rfl)
      clear hE
      go_enter Try.func22, Try.ntmps22
      go_wp2_with fail
      refine HC.out.mono ?_
      rintro e w1 ⟨rfl, hB1⟩
      have HB1 := hide (HB0.out.trans (hB1.mono HB0.out.size))
      clear hB1
      go_wp2_with fail
      refine (HI.out _).mono ?_
      rintro e w2 ⟨rfl, rfl⟩
      go_wp2_with fail
      refine (HO.out _ HB1.out).mono ?_
      rintro e w3 ⟨rfl, hB3⟩
      go_wp2
      go_ret
      exact ⟨by rw [HE.out] <;> rfl, HB1.out.trans (hB3.mono HB1.out.size)⟩
end Go.Proofs.Ytjgdegkjkedfcaa
