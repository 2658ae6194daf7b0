/- KeepWhy: the pieces that go have one of the three reasons. -/
import Derived.Test.YtjgdegkjkedfcaaKeepWorks
import Derived.Test.YtjgdegkjkedfcaaKeepPlain
namespace Go.Proofs.Ytjgdegkjkedfcaa
open Go.RowKit

theorem now_ok (x : Int) (w : World) : Calls Try.prog 12 #[.int .i64 x] w fun e w' => e = .returned (.bool (inB x 9007199254740992)) ∧ w = w' := by
  unfold inB
  by_cases h1 : 0 ≤ x
  · have d1 : decide (0 ≤ x) = true := decide_eq_true h1
    clear h1
    go_enter Try.func12, Try.ntmps12
    go_wp2
    go_ret
    exact ⟨by rw [d1]; rfl, rfl⟩
  · have d1 : decide (0 ≤ x) = false := decide_eq_false h1
    clear h1
    go_enter Try.func12, Try.ntmps12
    go_wp2
    go_ret
    exact ⟨by rw [d1]; rfl, rfl⟩
/-- a case's cells -/
def caseV (r : R4) (now later at0 : Int) (a : Option Addr) (n c : Nat) : Array Value := #[.int .i64 r.y, .int .i64 r.a, .int .i64 r.p, .int .i64 r.w, .int .i64 now, .int .i64 later, .int .i64 at0, .slice a n c]
def Box8 (w : World) (g : Nat) (cs : Array Value) : Prop := w.heap[g]? = some (.cells cs 34 (0, 0))
theorem Box8.lt {w : World} {g : Nat} {cs : Array Value} (h : Box8 w g cs) : g < w.heap.size := (Array.getElem?_eq_some_iff.1 h).1
theorem Box8.same {w w' : World} {g : Nat} {cs : Array Value} (h : Box8 w g cs) (hB : Below w.heap.size w w') : Box8 w' g cs := (hB.block g h.lt).trans h
theorem Box8.new (w : World) (cs : Array Value) : Box8 (w.alloc (.cells cs 34)) w.heap.size cs := heap_alloc_new w _
theorem Box8.cells {w : World} {g : Nat} {c0 c1 c2 c3 c4 c5 c6 c7 : Value} (h : Box8 w g #[c0, c1, c2, c3, c4, c5, c6, c7]) :
    w.cell? ⟨g, 0, none⟩ = some c0 ∧ w.cell? ⟨g, 1, none⟩ = some c1 ∧ w.cell? ⟨g, 2, none⟩ = some c2 ∧ w.cell? ⟨g, 3, none⟩ = some c3 ∧ w.cell? ⟨g, 4, none⟩ = some c4 ∧ w.cell? ⟨g, 5, none⟩ = some c5 ∧ w.cell? ⟨g, 6, none⟩ = some c6 ∧ w.cell? ⟨g, 7, none⟩ = some c7 := by
  refine ⟨?_, ?_, ?_, ?_, ?_, ?_, ?_, ?_⟩ <;> (rw [cell_of_row w g _ _ _ _ h]; rfl)

theorem goesN_of {r : R4} {now : Int} {l : List P3} (h : mayE r now l = 0) : goesN r now l = (cntL (alsL r now l) : Nat) := by unfold goesN; rw [if_pos h]
theorem mayE_of {r : R4} {now : Int} {l : List P3} (h1 : chkB r = true) (h2 : inB now 9007199254740992 = true) (h3 : ordE l = 0) : mayE r now l = 0 := by unfold mayE; rw [h1, h2]; exact h3
theorem chkB_sub {r r2 : R4} (h : chkB r = true) (h1 : r2.y = 0 ∨ r2.y = r.y) (h2 : r2.a = 0 ∨ r2.a = r.a) (h3 : r2.p = 0 ∨ r2.p = r.p) (h4 : r2.w = r.w) : chkB r2 = true := by
  unfold chkB at *
  simp only [Bool.and_eq_true, inB_iff] at *
  refine ⟨?_, ?_, ?_, ?_⟩ <;> omega
theorem whyE_in {r : R4} {now : Int} {l : List P3} {k : Nat} (h : mayE r now l = 0) (hk : k < l.length) : whyE r now k l = 0 := by
  unfold whyE
  rw [if_pos h, if_neg (by omega)]
/-- the world behind the first statement: the case and its rule have been put into memory -/
theorem case_new (w : World) (cs : Array Value) (r : R4) : Below w.heap.size w ((w.alloc (.cells cs 34)).alloc (.cells (ruleV r) 29)).drew ∧ BoxR ((w.alloc (.cells cs 34)).alloc (.cells (ruleV r) 29)).drew (w.heap.size + 1) r := by
  refine ⟨(((Below.refl w.heap.size w).alloc (Nat.le_refl _) _).alloc (by simp) _).drew, ?_⟩
  have h := BoxR.new (w.alloc (.cells cs 34)) r
  rw [World.size_alloc] at h
  exact h
set_option maxHeartbeats 6400000 in
set_option maxRecDepth 100000 in
theorem why_walk (r : R4) (now later at0 : Int) (a : Option Addr) (c : Nat) (l : List P3) (w : World) (hn : l.length ≤ 9223372036854775807) (hp : PcsAt w a l) :
    Calls Try.prog 4 #[.agg (caseV r now later at0 a l.length c)] w fun e w' => e = .returned (.bool true) ∧ Below w.heap.size w w' := by
  have HC0 := hide (case_new w (caseV r now later at0 a l.length c) r)
  have HCH := hide (Check_ok r)
  have HOR := hide (fun (w' : World) (hB : Below w.heap.size w w') => Ordered_ok a c l w' hn (hp.below hB (Nat.le_refl _)))
  have HNW := hide (now_ok now)
  have HGO := hide (fun (r : R4) (w' : World) (hB : Below w.heap.size w w') => Goes_ok r now a c l w' hn (hp.below hB (Nat.le_refl _)))
  have HWY := hide (fun (k : Nat) (w' : World) (hB : Below w.heap.size w w') => Why_ok r now k a c l w' hn (hp.below hB (Nat.le_refl _)))
  have HWF := hide (fun (k : Nat) (hk : k < l.length) (h0 : mayE r now l = 0) => why_facts r now l k hk h0)
  have HWE := hide (fun (k : Nat) (hk : k < l.length) (h0 : mayE r now l = 0) => whyE_in h0 hk)
  clear hp
  by_cases hbig : 60 < l.length
  · have d1 : decide ((60 : Int) < (l.length : Int)) = true := decide_eq_true (by omega)
    have d1' : decide (60 < l.length) = true := decide_eq_true hbig
    clear hbig hn HCH HOR HNW HGO HWY HWF HWE
    obtain ⟨ry, ra, rp, rw'⟩ := r
    unfold caseV ruleV at *
    dsimp only at *
    generalize l.length = n at *
    go_enter Try.func4, Try.ntmps4
    go_wp2_with fail
    go_big_region
    have HB0 := hide HC0.out.1
    clear HC0
    go_wp2_with fail
    refine (works_ok _).mono ?_
    rintro e w1 ⟨rfl, hB⟩
    go_wp2
    go_ret
    exact ⟨rfl, HB0.out.trans (hB.mono HB0.out.size)⟩
  · have d1 : decide ((60 : Int) < (l.length : Int)) = false := decide_eq_false (by omega)
    have d1' : decide (60 < l.length) = false := decide_eq_false hbig
    unfold chkE at HCH
    have hn60 : l.length ≤ 60 := by omega
    by_cases hch : chkB r = false
    · rw [hch] at HCH
      clear hbig hn hch HOR HNW HGO HWY HWF HWE
      obtain ⟨ry, ra, rp, rw'⟩ := r
      unfold caseV ruleV at *
      dsimp only at *
      generalize l.length = n at *
      go_enter Try.func4, Try.ntmps4
      go_wp2_with fail
      go_big_region
      obtain ⟨w0, hw0⟩ : ∃ w0, w0 = ((w.alloc (.cells #[.int .i64 ry, .int .i64 ra, .int .i64 rp, .int .i64 rw', .int .i64 now, .int .i64 later, .int .i64 at0, .slice a n c] 34)).alloc (.cells #[.int .i64 ry, .int .i64 ra, .int .i64 rp, .int .i64 rw'] 29)).drew := ⟨_, rfl⟩
      rw [← hw0] at HC0 ⊢
      obtain ⟨hB0, hbx⟩ := HC0.out
      have HB0 := hide hB0
      have HBX := hide hbx
      obtain ⟨b0, b1, b2, b3⟩ := hbx.cells
      clear HC0 hw0 hB0 hbx
      go_wp2_with fail
      refine (HCH.out w0).mono ?_
      rintro e w1 ⟨rfl, hB⟩
      have HB1 := hide (HB0.out.trans (hB.mono HB0.out.size))
      have HBX1 := hide (HBX.out.same hB)
      clear hB b0 b1 b2 b3
      go_wp2_with (go_at_call 8; with_reducible refine (num_ok _ _).mono ?_; rintro e w' ⟨rfl, rfl⟩)
      refine (works_ok _).mono ?_
      rintro e w9 ⟨rfl, hB⟩
      go_wp2
      go_ret
      exact ⟨rfl, HB1.out.trans (hB.mono HB1.out.size)⟩
    · have hch : chkB r = true := by simpa using hch
      rw [hch] at HCH
      have HCK := hide hch
      clear hch
      by_cases hor : ordE l = 0
      · rw [hor] at HOR
        have HO0 := hide hor
        clear hor
        have HMY : Hid (inB now 9007199254740992 = true → ∀ r2, chkB r2 = true → mayE r2 now l = 0) := hide (fun h r2 h2 => mayE_of h2 h HO0.out)
        by_cases hnw : inB now 9007199254740992 = false
        · rw [hnw] at HNW
          clear hbig hn hnw HGO HWY HWF HWE
          obtain ⟨ry, ra, rp, rw'⟩ := r
          unfold caseV ruleV at *
          dsimp only at *
          generalize l.length = n at *
          go_enter Try.func4, Try.ntmps4
          go_wp2_with fail
          go_big_region
          obtain ⟨w0, hw0⟩ : ∃ w0, w0 = ((w.alloc (.cells #[.int .i64 ry, .int .i64 ra, .int .i64 rp, .int .i64 rw', .int .i64 now, .int .i64 later, .int .i64 at0, .slice a n c] 34)).alloc (.cells #[.int .i64 ry, .int .i64 ra, .int .i64 rp, .int .i64 rw'] 29)).drew := ⟨_, rfl⟩
          rw [← hw0] at HC0 ⊢
          obtain ⟨hB0, hbx⟩ := HC0.out
          have HB0 := hide hB0
          have HBX := hide hbx
          obtain ⟨b0, b1, b2, b3⟩ := hbx.cells
          clear HC0 hw0 hB0 hbx
          go_wp2_with fail
          refine (HCH.out w0).mono ?_
          rintro e w1 ⟨rfl, hB⟩
          have HB1 := hide (HB0.out.trans (hB.mono HB0.out.size))
          have HBX1 := hide (HBX.out.same hB)
          clear hB b0 b1 b2 b3
          go_wp2_with (go_at_call 8; with_reducible refine (num_ok _ _).mono ?_; rintro e w' ⟨rfl, rfl⟩)
          refine (HOR.out w1 HB1.out).mono ?_
          rintro e w2 ⟨rfl, hB⟩
          have HB2 := hide (HB1.out.trans (hB.mono HB1.out.size))
          have HBX2 := hide (HBX1.out.same hB)
          clear hB
          go_wp2_with (first
            | (go_at_call 8; with_reducible refine (num_ok _ _).mono ?_; rintro e w' ⟨rfl, rfl⟩)
            | (go_at_call 12; with_reducible refine (HNW.out _).mono ?_; rintro e w' ⟨rfl, rfl⟩))
          refine (works_ok _).mono ?_
          rintro e w9 ⟨rfl, hB⟩
          go_wp2
          go_ret
          exact ⟨rfl, HB2.out.trans (hB.mono HB2.out.size)⟩
        · have hnw : inB now 9007199254740992 = true := by simpa using hnw
          rw [hnw] at HNW
          have HM0 := hide (HMY.out hnw)
          clear hnw HMY
          have hm0 := HM0.out r HCK.out
          have HG0 : Hid (goesN r now l = (cntL (alsL r now l) : Nat)) := hide (goesN_of hm0)
          have HWF' := hide (fun (k : Nat) (hk : k < l.length) => HWF.out k hk hm0)
          have HWE' := hide (fun (k : Nat) (hk : k < l.length) => HWE.out k hk hm0)
          have HG1 : Hid (∀ y a p, (y = 0 ∨ y = r.y) → (a = 0 ∨ a = r.a) → (p = 0 ∨ p = r.p) → mayE ⟨y, a, p, r.w⟩ now l = 0 ∧ goesN ⟨y, a, p, r.w⟩ now l = (cntL (alsL ⟨y, a, p, r.w⟩ now l) : Nat) ∧ cntL (alsL ⟨y, a, p, r.w⟩ now l) ≤ cntL (alsL r now l)) := hide (fun y a p h1 h2 h3 => by
            have hm := HM0.out ⟨y, a, p, r.w⟩ (chkB_sub HCK.out h1 h2 h3 rfl)
            exact ⟨hm, goesN_of hm, cnt_mono (r := ⟨y, a, p, r.w⟩) (r2 := r) ⟨Int.le_refl _, fun (h : 0 < y) => show 0 < r.y ∧ r.y ≤ y by omega, fun (h : 0 < a) => show 0 < r.a ∧ r.a ≤ a by omega, fun (h : 0 < p) => show 0 < r.p ∧ r.p ≤ p by omega⟩ (Int.le_refl _) l⟩)
          have HGm := hide (fun (w' : World) (hB : Below w.heap.size w w') => HGO.out r w' hB)
          rw [HG0.out, hm0] at HGm
          obtain ⟨hy1, hy2, hy3⟩ := HG1.out r.y 0 0 (.inr rfl) (.inl rfl) (.inl rfl)
          obtain ⟨ha1, ha2, ha3⟩ := HG1.out 0 r.a 0 (.inl rfl) (.inr rfl) (.inl rfl)
          obtain ⟨hp1, hp2, hp3⟩ := HG1.out 0 0 r.p (.inl rfl) (.inl rfl) (.inr rfl)
          obtain ⟨hz1, hz2, hz3⟩ := HG1.out 0 0 0 (.inl rfl) (.inl rfl) (.inl rfl)
          rw [cnt_none] at hz2
          have HGy := hide (fun (w' : World) (hB : Below w.heap.size w w') => HGO.out ⟨r.y, 0, 0, r.w⟩ w' hB)
          have HGa := hide (fun (w' : World) (hB : Below w.heap.size w w') => HGO.out ⟨0, r.a, 0, r.w⟩ w' hB)
          have HGp := hide (fun (w' : World) (hB : Below w.heap.size w w') => HGO.out ⟨0, 0, r.p, r.w⟩ w' hB)
          have HGz := hide (fun (w' : World) (hB : Below w.heap.size w w') => HGO.out ⟨0, 0, 0, r.w⟩ w' hB)
          rw [hy1, hy2] at HGy
          rw [ha1, ha2] at HGa
          rw [hp1, hp2] at HGp
          rw [hz1, hz2] at HGz
          clear hy1 hy2 ha1 ha2 hp1 hp2 hz1 hz2 hz3 HG0 HG1 HGO HM0 HWF HWE hm0 HCK HO0 hn hbig
          generalize cntL (alsL r now l) = cn at *
          generalize cntL (alsL ⟨r.y, 0, 0, r.w⟩ now l) = cy at *
          generalize cntL (alsL ⟨0, r.a, 0, r.w⟩ now l) = ca at *
          generalize cntL (alsL ⟨0, 0, r.p, r.w⟩ now l) = cp at *
          obtain ⟨N, hN⟩ : ∃ N : Nat → Int, N = fun (k : Nat) => whyN r now (k : Int) l := ⟨_, rfl⟩
          have HWY' : Hid (∀ (k : Nat) (hk : k < l.length) (w' : World) (hB : Below w.heap.size w w'), Calls Try.prog 13 #[.agg (ruleV r), .int .i64 now, .int .i64 k, .slice a l.length c] w' fun e w2 => e = .returned (.tuple #[.int .i64 (N k), .int .i64 0]) ∧ Below w'.heap.size w' w2) := hide (fun k hk w' hB => by
            have h := HWY.out k w' hB
            rw [HWE'.out k hk] at h
            rw [hN]
            exact h)
          have HWF2 : Hid (∀ k, k < l.length → ((N k = 1 ∨ N k = 2 ∨ N k = 3) ∧ k < cn ∧ k + 1 ≠ l.length) ∨ (N k = 6 ∧ cn < k ∧ k + 1 ≠ l.length) ∨ ((N k = 0 ∨ N k = 5) ∧ cn ≤ k ∧ k + 1 ≠ l.length) ∨ (N k = 4 ∧ cn ≤ k ∧ k + 1 = l.length)) := hide (fun k hk => by rw [hN]; exact HWF'.out k hk)
          clear hN HWY HWE' HWF'
          have dy : decide ((cy : Int) ≤ (cn : Int)) = true := decide_eq_true (by omega)
          have da : decide ((ca : Int) ≤ (cn : Int)) = true := decide_eq_true (by omega)
          have dp : decide ((cp : Int) ≤ (cn : Int)) = true := decide_eq_true (by omega)
          have dy' : decide (cy ≤ cn) = true := decide_eq_true (by omega)
          have da' : decide (ca ≤ cn) = true := decide_eq_true (by omega)
          have dp' : decide (cp ≤ cn) = true := decide_eq_true (by omega)
          clear hy3 ha3 hp3
          obtain ⟨ry, ra, rp, rw'⟩ := r
          unfold caseV ruleV at *
          dsimp only at *
          generalize l.length = n at *
          go_enter Try.func4, Try.ntmps4
          go_wp2_with fail
          go_big_region
          obtain ⟨w0, hw0⟩ : ∃ w0, w0 = ((w.alloc (.cells #[.int .i64 ry, .int .i64 ra, .int .i64 rp, .int .i64 rw', .int .i64 now, .int .i64 later, .int .i64 at0, .slice a n c] 34)).alloc (.cells #[.int .i64 ry, .int .i64 ra, .int .i64 rp, .int .i64 rw'] 29)).drew := ⟨_, rfl⟩
          rw [← hw0] at HC0 ⊢
          obtain ⟨hB0, hbx⟩ := HC0.out
          have HB0 := hide hB0
          have HBX := hide hbx
          obtain ⟨b0, b1, b2, b3⟩ := hbx.cells
          clear HC0 hw0 hB0 hbx
          go_wp2_with fail
          refine (HCH.out w0).mono ?_
          rintro e w1 ⟨rfl, hB⟩
          have HB1 := hide (HB0.out.trans (hB.mono HB0.out.size))
          have HBX1 := hide (HBX.out.same hB)
          clear hB b0 b1 b2 b3
          go_wp2_with (go_at_call 8; with_reducible refine (num_ok _ _).mono ?_; rintro e w' ⟨rfl, rfl⟩)
          refine (HOR.out w1 HB1.out).mono ?_
          rintro e w2 ⟨rfl, hB⟩
          have HB2 := hide (HB1.out.trans (hB.mono HB1.out.size))
          have HBX2 := hide (HBX1.out.same hB)
          clear hB
          obtain ⟨b0, b1, b2, b3⟩ := HBX2.out.cells
          go_wp2_with (first
            | (go_at_call 8; with_reducible refine (num_ok _ _).mono ?_; rintro e w' ⟨rfl, rfl⟩)
            | (go_at_call 12; with_reducible refine (HNW.out _).mono ?_; rintro e w' ⟨rfl, rfl⟩))
          refine (HGm.out w2 HB2.out).mono ?_
          rintro e w3 ⟨rfl, hB⟩
          have HB3 := hide (HB2.out.trans (hB.mono HB2.out.size))
          have HBX3 := hide (HBX2.out.same hB)
          clear hB b0 b1 b2 b3
          go_wp2_with (go_at_call 8; with_reducible refine (num_ok _ _).mono ?_; rintro e w' ⟨rfl, rfl⟩)
          go_loopw [8, 9, 10, 11] (fun i x f g wr => ∃ (k : Nat), k ≤ n ∧ i = .int .i64 k ∧ Hid (Below w3.heap.size w3 wr)) (fun i _ _ _ _ => n - (intOf i).toNat)
          case atStart => exact ⟨0, by omega, rfl, hide (Below.refl _ _)⟩
          case round =>
            obtain ⟨k, hk, rfl, HB⟩ := hrel
            have HBX4 := hide (HBX3.out.same HB.out)
            have HB4 := hide (HB3.out.trans (HB.out.mono HB3.out.size))
            obtain ⟨b0, b1, b2, b3⟩ := HBX4.out.cells
            by_cases hlt : k < n
            · have hwf := HWF2.out k hlt
              have HY := hide (HWY'.out k hlt wr HB4.out)
              generalize N k = x at *
              rcases hwf with ⟨hx, h1, h2⟩ | ⟨rfl, h1, h2⟩ | ⟨hx, h1, h2⟩ | ⟨rfl, h1, h2⟩
              · rcases hx with rfl | rfl | rfl
                · skip
                  have d2 : decide ((k : Int) < (cn : Int)) = true := decide_eq_true (by omega)
                  have d2' : decide (k < cn) = true := decide_eq_true (by omega)
                  have d3 : ((k : Int) == (cn : Int)) = false := by rw [beq_eq_false_iff_ne]; omega
                  have d4 : ((k : Int) == (n : Int) - 1) = false := by rw [beq_eq_false_iff_ne]; omega
                  clear h1 h2
                  go_wp2_with fail
                  refine HY.out.mono ?_
                  rintro e w5 ⟨rfl, hB⟩
                  have HB5 := hide (HB.out.trans (hB.mono HB.out.size))
                  clear hB b0 b1 b2 b3
                  go_wp2_with (go_at_call 8; with_reducible refine (num_ok _ _).mono ?_; rintro e w' ⟨rfl, rfl⟩)
                  go_roundw
                  case rel => exact ⟨k + 1, by omega, by go_num, HB5⟩
                  case measure => simp [intOf] <;> omega
                · skip
                  have d2 : decide ((k : Int) < (cn : Int)) = true := decide_eq_true (by omega)
                  have d2' : decide (k < cn) = true := decide_eq_true (by omega)
                  have d3 : ((k : Int) == (cn : Int)) = false := by rw [beq_eq_false_iff_ne]; omega
                  have d4 : ((k : Int) == (n : Int) - 1) = false := by rw [beq_eq_false_iff_ne]; omega
                  clear h1 h2
                  go_wp2_with fail
                  refine HY.out.mono ?_
                  rintro e w5 ⟨rfl, hB⟩
                  have HB5 := hide (HB.out.trans (hB.mono HB.out.size))
                  clear hB b0 b1 b2 b3
                  go_wp2_with (go_at_call 8; with_reducible refine (num_ok _ _).mono ?_; rintro e w' ⟨rfl, rfl⟩)
                  go_roundw
                  case rel => exact ⟨k + 1, by omega, by go_num, HB5⟩
                  case measure => simp [intOf] <;> omega
                · skip
                  have d2 : decide ((k : Int) < (cn : Int)) = true := decide_eq_true (by omega)
                  have d2' : decide (k < cn) = true := decide_eq_true (by omega)
                  have d3 : ((k : Int) == (cn : Int)) = false := by rw [beq_eq_false_iff_ne]; omega
                  have d4 : ((k : Int) == (n : Int) - 1) = false := by rw [beq_eq_false_iff_ne]; omega
                  clear h1 h2
                  go_wp2_with fail
                  refine HY.out.mono ?_
                  rintro e w5 ⟨rfl, hB⟩
                  have HB5 := hide (HB.out.trans (hB.mono HB.out.size))
                  clear hB b0 b1 b2 b3
                  go_wp2_with (go_at_call 8; with_reducible refine (num_ok _ _).mono ?_; rintro e w' ⟨rfl, rfl⟩)
                  go_roundw
                  case rel => exact ⟨k + 1, by omega, by go_num, HB5⟩
                  case measure => simp [intOf] <;> omega
              · skip
                have d2 : decide ((k : Int) < (cn : Int)) = false := decide_eq_false (by omega)
                have d2' : decide (k < cn) = false := decide_eq_false (by omega)
                have d3 : ((k : Int) == (cn : Int)) = false := by rw [beq_eq_false_iff_ne]; omega
                have d4 : ((k : Int) == (n : Int) - 1) = false := by rw [beq_eq_false_iff_ne]; omega
                clear h1 h2
                go_wp2_with fail
                refine HY.out.mono ?_
                rintro e w5 ⟨rfl, hB⟩
                have HB5 := hide (HB.out.trans (hB.mono HB.out.size))
                clear hB b0 b1 b2 b3
                go_wp2_with (go_at_call 8; with_reducible refine (num_ok _ _).mono ?_; rintro e w' ⟨rfl, rfl⟩)
                go_roundw
                case rel => exact ⟨k + 1, by omega, by go_num, HB5⟩
                case measure => simp [intOf] <;> omega
              · rcases hx with rfl | rfl
                · by_cases he : k = cn
                  · skip
                    have d2 : decide ((k : Int) < (cn : Int)) = false := decide_eq_false (by omega)
                    have d2' : decide (k < cn) = false := decide_eq_false (by omega)
                    have d3 : ((k : Int) == (cn : Int)) = true := by rw [beq_iff_eq]; omega
                    have d4 : ((k : Int) == (n : Int) - 1) = false := by rw [beq_eq_false_iff_ne]; omega
                    clear h1 h2 he
                    go_wp2_with fail
                    refine HY.out.mono ?_
                    rintro e w5 ⟨rfl, hB⟩
                    have HB5 := hide (HB.out.trans (hB.mono HB.out.size))
                    clear hB b0 b1 b2 b3
                    go_wp2_with (go_at_call 8; with_reducible refine (num_ok _ _).mono ?_; rintro e w' ⟨rfl, rfl⟩)
                    go_roundw
                    case rel => exact ⟨k + 1, by omega, by go_num, HB5⟩
                    case measure => simp [intOf] <;> omega
                  · skip
                    have d2 : decide ((k : Int) < (cn : Int)) = false := decide_eq_false (by omega)
                    have d2' : decide (k < cn) = false := decide_eq_false (by omega)
                    have d3 : ((k : Int) == (cn : Int)) = false := by rw [beq_eq_false_iff_ne]; omega
                    have d4 : ((k : Int) == (n : Int) - 1) = false := by rw [beq_eq_false_iff_ne]; omega
                    clear h1 h2 he
                    go_wp2_with fail
                    refine HY.out.mono ?_
                    rintro e w5 ⟨rfl, hB⟩
                    have HB5 := hide (HB.out.trans (hB.mono HB.out.size))
                    clear hB b0 b1 b2 b3
                    go_wp2_with (go_at_call 8; with_reducible refine (num_ok _ _).mono ?_; rintro e w' ⟨rfl, rfl⟩)
                    go_roundw
                    case rel => exact ⟨k + 1, by omega, by go_num, HB5⟩
                    case measure => simp [intOf] <;> omega
                · by_cases he : k = cn
                  · skip
                    have d2 : decide ((k : Int) < (cn : Int)) = false := decide_eq_false (by omega)
                    have d2' : decide (k < cn) = false := decide_eq_false (by omega)
                    have d3 : ((k : Int) == (cn : Int)) = true := by rw [beq_iff_eq]; omega
                    have d4 : ((k : Int) == (n : Int) - 1) = false := by rw [beq_eq_false_iff_ne]; omega
                    clear h1 h2 he
                    go_wp2_with fail
                    refine HY.out.mono ?_
                    rintro e w5 ⟨rfl, hB⟩
                    have HB5 := hide (HB.out.trans (hB.mono HB.out.size))
                    clear hB b0 b1 b2 b3
                    go_wp2_with (go_at_call 8; with_reducible refine (num_ok _ _).mono ?_; rintro e w' ⟨rfl, rfl⟩)
                    go_roundw
                    case rel => exact ⟨k + 1, by omega, by go_num, HB5⟩
                    case measure => simp [intOf] <;> omega
                  · skip
                    have d2 : decide ((k : Int) < (cn : Int)) = false := decide_eq_false (by omega)
                    have d2' : decide (k < cn) = false := decide_eq_false (by omega)
                    have d3 : ((k : Int) == (cn : Int)) = false := by rw [beq_eq_false_iff_ne]; omega
                    have d4 : ((k : Int) == (n : Int) - 1) = false := by rw [beq_eq_false_iff_ne]; omega
                    clear h1 h2 he
                    go_wp2_with fail
                    refine HY.out.mono ?_
                    rintro e w5 ⟨rfl, hB⟩
                    have HB5 := hide (HB.out.trans (hB.mono HB.out.size))
                    clear hB b0 b1 b2 b3
                    go_wp2_with (go_at_call 8; with_reducible refine (num_ok _ _).mono ?_; rintro e w' ⟨rfl, rfl⟩)
                    go_roundw
                    case rel => exact ⟨k + 1, by omega, by go_num, HB5⟩
                    case measure => simp [intOf] <;> omega
              · by_cases he : k = cn
                · skip
                  have d2 : decide ((k : Int) < (cn : Int)) = false := decide_eq_false (by omega)
                  have d2' : decide (k < cn) = false := decide_eq_false (by omega)
                  have d3 : ((k : Int) == (cn : Int)) = true := by rw [beq_iff_eq]; omega
                  have d4 : ((k : Int) == (n : Int) - 1) = true := by rw [beq_iff_eq]; omega
                  clear h1 h2 he
                  go_wp2_with fail
                  refine HY.out.mono ?_
                  rintro e w5 ⟨rfl, hB⟩
                  have HB5 := hide (HB.out.trans (hB.mono HB.out.size))
                  clear hB b0 b1 b2 b3
                  go_wp2_with (go_at_call 8; with_reducible refine (num_ok _ _).mono ?_; rintro e w' ⟨rfl, rfl⟩)
                  go_roundw
                  case rel => exact ⟨k + 1, by omega, by go_num, HB5⟩
                  case measure => simp [intOf] <;> omega
                · skip
                  have d2 : decide ((k : Int) < (cn : Int)) = false := decide_eq_false (by omega)
                  have d2' : decide (k < cn) = false := decide_eq_false (by omega)
                  have d3 : ((k : Int) == (cn : Int)) = false := by rw [beq_eq_false_iff_ne]; omega
                  have d4 : ((k : Int) == (n : Int) - 1) = true := by rw [beq_iff_eq]; omega
                  clear h1 h2 he
                  go_wp2_with fail
                  refine HY.out.mono ?_
                  rintro e w5 ⟨rfl, hB⟩
                  have HB5 := hide (HB.out.trans (hB.mono HB.out.size))
                  clear hB b0 b1 b2 b3
                  go_wp2_with (go_at_call 8; with_reducible refine (num_ok _ _).mono ?_; rintro e w' ⟨rfl, rfl⟩)
                  go_roundw
                  case rel => exact ⟨k + 1, by omega, by go_num, HB5⟩
                  case measure => simp [intOf] <;> omega
            · obtain rfl : k = n := by omega
              obtain ⟨w4, rfl⟩ : ∃ w4, w4 = wr := ⟨_, rfl⟩
              go_wp2_with fail
              refine (HGz.out w4 HB4.out).mono ?_
              rintro e w5 ⟨rfl, hB⟩
              have HB5 := hide (HB4.out.trans (hB.mono HB4.out.size))
              have HBX5 := hide (HBX4.out.same hB)
              clear hB b0 b1 b2 b3
              obtain ⟨b0, b1, b2, b3⟩ := HBX5.out.cells
              go_wp2_with fail
              refine (HGy.out w5 HB5.out).mono ?_
              rintro e w6 ⟨rfl, hB⟩
              have HB6 := hide (HB5.out.trans (hB.mono HB5.out.size))
              have HBX6 := hide (HBX5.out.same hB)
              clear hB b0 b1 b2 b3
              obtain ⟨b0, b1, b2, b3⟩ := HBX6.out.cells
              go_wp2_with fail
              refine (HGa.out w6 HB6.out).mono ?_
              rintro e w7 ⟨rfl, hB⟩
              have HB7 := hide (HB6.out.trans (hB.mono HB6.out.size))
              have HBX7 := hide (HBX6.out.same hB)
              clear hB b0 b1 b2 b3
              obtain ⟨b0, b1, b2, b3⟩ := HBX7.out.cells
              go_wp2_with fail
              refine (HGp.out w7 HB7.out).mono ?_
              rintro e w8 ⟨rfl, hB⟩
              have HB8 := hide (HB7.out.trans (hB.mono HB7.out.size))
              have HBX8 := hide (HBX7.out.same hB)
              clear hB b0 b1 b2 b3
              obtain ⟨b0, b1, b2, b3⟩ := HBX8.out.cells
              go_wp2_with (go_at_call 8; with_reducible refine (num_ok _ _).mono ?_; rintro e w' ⟨rfl, rfl⟩)
              refine (works_ok _).mono ?_
              rintro e w9 ⟨rfl, hB⟩
              go_wp2
              go_ret
              exact ⟨rfl, HB8.out.trans (hB.mono HB8.out.size)⟩
      · have hne : (ordE l != 0) = true := by simpa using hor
        generalize ordE l = E at *
        clear hbig hn hor HNW HGO HWY HWF HWE
        obtain ⟨ry, ra, rp, rw'⟩ := r
        unfold caseV ruleV at *
        dsimp only at *
        generalize l.length = n at *
        go_enter Try.func4, Try.ntmps4
        go_wp2_with fail
        go_big_region
        obtain ⟨w0, hw0⟩ : ∃ w0, w0 = ((w.alloc (.cells #[.int .i64 ry, .int .i64 ra, .int .i64 rp, .int .i64 rw', .int .i64 now, .int .i64 later, .int .i64 at0, .slice a n c] 34)).alloc (.cells #[.int .i64 ry, .int .i64 ra, .int .i64 rp, .int .i64 rw'] 29)).drew := ⟨_, rfl⟩
        rw [← hw0] at HC0 ⊢
        obtain ⟨hB0, hbx⟩ := HC0.out
        have HB0 := hide hB0
        have HBX := hide hbx
        obtain ⟨b0, b1, b2, b3⟩ := hbx.cells
        clear HC0 hw0 hB0 hbx
        go_wp2_with fail
        refine (HCH.out w0).mono ?_
        rintro e w1 ⟨rfl, hB⟩
        have HB1 := hide (HB0.out.trans (hB.mono HB0.out.size))
        have HBX1 := hide (HBX.out.same hB)
        clear hB b0 b1 b2 b3
        go_wp2_with (go_at_call 8; with_reducible refine (num_ok _ _).mono ?_; rintro e w' ⟨rfl, rfl⟩)
        refine (HOR.out w1 HB1.out).mono ?_
        rintro e w2 ⟨rfl, hB⟩
        have HB2 := hide (HB1.out.trans (hB.mono HB1.out.size))
        have HBX2 := hide (HBX1.out.same hB)
        clear hB
        go_wp2_with (go_at_call 8; with_reducible refine (num_ok _ _).mono ?_; rintro e w' ⟨rfl, rfl⟩)
        refine (works_ok _).mono ?_
        rintro e w9 ⟨rfl, hB⟩
        go_wp2
        go_ret
        exact ⟨rfl, HB2.out.trans (hB.mono HB2.out.size)⟩
end Go.Proofs.Ytjgdegkjkedfcaa
