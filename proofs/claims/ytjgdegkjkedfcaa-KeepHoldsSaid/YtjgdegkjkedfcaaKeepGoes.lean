/- Walks of keep.goes, count, Goes, Why, Next, Bytes. -/
import Derived.Test.YtjgdegkjkedfcaaKeepAlone
import Derived.WalkMore
namespace Go.Proofs.Ytjgdegkjkedfcaa
open Go.RowKit

def goesB (x : Int) : Bool := decide (1 ≤ x) && decide (x ≤ 3)
/-- how many of the first ones go -/
def cntL : List Int → Nat
  | [] => 0
  | x :: r => if goesB x then cntL r + 1 else 0
theorem cntL_le (l : List Int) : cntL l ≤ l.length := by
  induction l with
  | nil => simp [cntL]
  | cons x l ih => simp only [cntL, List.length_cons]; split <;> omega
def goesN (r : R4) (now : Int) (l : List P3) : Int := if mayE r now l = 0 then (cntL (alsL r now l) : Int) else 0
def whyE (r : R4) (now : Int) (at0 : Int) (l : List P3) : Int := if mayE r now l = 0 then (if at0 < 0 ∨ (l.length : Int) ≤ at0 then 2 else 0) else mayE r now l
def whyN (r : R4) (now : Int) (at0 : Int) (l : List P3) : Int :=
  if mayE r now l = 0 ∧ 0 ≤ at0 ∧ at0 < (l.length : Int) then
    (if goesB ((alsL r now l).getD at0.toNat 0) = true ∧ (cntL (alsL r now l) : Int) ≤ at0 then 6 else (alsL r now l).getD at0.toNat 0) else 0
/-- when more go -/
def nextB (r : R4) (now : Int) (l : List P3) : Bool :=
  decide (mayE r now l = 0) && (decide (cntL (alsL r now l) ≠ l.length) && (decide ((alsL r now l).getD (cntL (alsL r now l)) 0 = 0) && (decide (r.a ≠ 0) && decide ((l.getD (cntL (alsL r now l)) default).t + r.a + 1 ≤ 9007199254740992))))
def nextT (r : R4) (now : Int) (l : List P3) : Int := if nextB r now l then (l.getD (cntL (alsL r now l)) default).t + r.a + 1 else 0

theorem goes_ok (x : Int) (w : World) : Calls Try.prog 27 #[.int .i64 x] w fun e w' => e = .returned (.bool (goesB x)) ∧ w = w' := by
  unfold goesB
  by_cases h1 : 1 ≤ x
  · have d1 : decide (1 ≤ x) = true := decide_eq_true h1
    clear h1
    go_enter Try.func27, Try.ntmps27
    go_wp2
    go_ret
    exact ⟨by rw [d1]; rfl, rfl⟩
  · have d1 : decide (1 ≤ x) = false := decide_eq_false h1
    clear h1
    go_enter Try.func27, Try.ntmps27
    go_wp2
    go_ret
    exact ⟨by rw [d1]; rfl, rfl⟩

theorem cnt_step (xs : List Int) (k : Nat) (h : k < xs.length) : cntL (xs.drop k) = if goesB (xs.getD k 0) then cntL (xs.drop (k + 1)) + 1 else 0 := by
  rw [List.drop_eq_getElem_cons h]
  have : xs.getD k 0 = xs[k] := by simp [List.getD_eq_getElem?_getD, h]
  rw [this]
  rfl

set_option maxHeartbeats 1600000 in
theorem count_ok (base g cap : Nat) (xs : List Int) (w : World) (hn : xs.length ≤ 9223372036854775807) (hx : WInts w base g cap xs) :
    Calls Try.prog 23 #[.slice (some ⟨g, 0, none⟩) xs.length cap] w fun e w' => e = .returned (.int .i64 (cntL xs : Nat)) ∧ w = w' := by
  have HX := hide (hx.cell)
  have HS := hide (cnt_step xs)
  obtain ⟨E, hE⟩ : ∃ E, E = cntL xs := ⟨_, rfl⟩
  have HE0 : Hid (E = 0 + cntL (xs.drop 0)) := hide (by rw [hE]; simp)
  have HEN : Hid (cntL (xs.drop xs.length) = 0) := hide (by rw [List.drop_length]; rfl)
  rw [← hE]
  clear hx hE
  generalize xs.length = n at *
  go_enter Try.func23, Try.ntmps23
  go_wp2
  go_step3
  go_wp2
  go_step3
  go_wp2
  go_loopw [3, 5, 8] (fun c x i wr => ∃ (k : Nat), k ≤ n ∧ i = .int .i64 k ∧ c = .int .i64 k ∧ Hid (E = k + cntL (xs.drop k)) ∧ w = wr) (fun _ _ i _ => n - (intOf i).toNat)
  case atStart => exact ⟨0, by omega, rfl, rfl, HE0, rfl⟩
  case round =>
    obtain ⟨k, hk, rfl, rfl, HE, rfl⟩ := hrel
    by_cases hlt : k < n
    · have hc := HX.out k hlt
      have hs := HS.out k hlt
      generalize xs.getD k 0 = x at *
      have HG := hide (goes_ok x)
      generalize goesB x = q at *
      cases q
      · have HV := hide (show E = k by rw [HE.out, hs]; rfl)
        clear hs
        go_wp2_with fail
        refine (HG.out _).mono ?_
        rintro e w1 ⟨rfl, rfl⟩
        go_wp2
        rw [Exit.noGoto_ret]
        go_ret
        exact ⟨by rw [HV.out] <;> rfl, rfl⟩
      · have HV := hide (show E = (k + 1 : Nat) + cntL (xs.drop (k + 1)) by rw [HE.out, hs, if_pos rfl]; omega)
        clear hs
        go_wp2_with fail
        refine (HG.out _).mono ?_
        rintro e w1 ⟨rfl, rfl⟩
        go_wp2
        go_roundw
        case rel => exact ⟨k + 1, by omega, by go_num, by go_num, HV, trivial⟩
        case measure => simp [intOf] <;> omega
    · obtain rfl : k = n := by omega
      have HV := hide (show E = k by rw [HE.out, HEN.out]; rfl)
      go_wp2
      rw [Exit.noGoto_ret]
      go_ret
      exact ⟨by rw [HV.out] <;> rfl, rfl⟩

theorem mayE_ok {r : R4} {now : Int} {l : List P3} (h : mayE r now l = 0) : chkB r = true ∧ inB now 9007199254740992 = true ∧ l.length ≤ 4096 ∧ ordFrom (-1) l = true := by
  unfold mayE at h
  split at h
  · rename_i h1
    rw [Bool.and_eq_true] at h1
    unfold ordE at h
    split at h
    · omega
    · split at h
      · rename_i h2 h3
        exact ⟨h1.1, h1.2, by omega, h3⟩
      · omega
  · omega

set_option maxHeartbeats 1600000 in
theorem Goes_ok (r : R4) (now : Int) (a : Option Addr) (c : Nat) (l : List P3) (w : World) (hn : l.length ≤ 9223372036854775807) (hp : PcsAt w a l) :
    Calls Try.prog 7 #[.agg (ruleV r), .int .i64 now, .slice a l.length c] w fun e w' => e = .returned (.tuple #[.int .i64 (goesN r now l), .int .i64 (mayE r now l)]) ∧ Below w.heap.size w w' := by
  obtain ⟨X, hX⟩ : ∃ X, X = goesN r now l := ⟨_, rfl⟩
  rw [← hX]
  unfold goesN at hX
  have HB0 := hide ((Below.refl w.heap.size w).alloc (Nat.le_refl _) (.cells (ruleV r) 29))
  have HM := hide (may_ok r now a c l (w.alloc (.cells (ruleV r) 29)) hn (hp.below HB0.out (Nat.le_refl _)))
  have HBX := hide (BoxR.new w r)
  by_cases h0 : mayE r now l = 0
  · obtain ⟨m1, m2, m3, m4⟩ := mayE_ok h0
    rw [if_pos h0] at hX
    have HA := hide (fun (w' : World) (hB : Below w.heap.size w w') => alone_ok r now a c l w' m3 m2 m4 (hp.below hB (Nat.le_refl _)))
    rw [h0] at HM ⊢
    have HC := hide (fun (base g cap : Nat) (w : World) => count_ok base g cap (alsL r now l) w (by rw [alsL_length]; omega))
    rw [alsL_length] at HC
    have HX := hide hX
    obtain ⟨y, ag, p, b⟩ := r
    generalize alsL ⟨y, ag, p, b⟩ now l = als at *
    generalize cntL als = cn at *
    clear h0 m1 m2 m4 hX hp hn
    generalize l.length = n at *
    unfold ruleV at *
    go_enter Try.func7, Try.ntmps7
    go_wp2_with fail
    refine HM.out.mono ?_
    rintro e w1 ⟨rfl, hB1⟩
    have HB1 := hide (HB0.out.trans (hB1.mono HB0.out.size))
    obtain ⟨b0, b1, b2, b3⟩ := (HBX.out.same hB1).cells
    clear hB1
    go_wp2_with fail
    refine (HA.out w1 HB1.out).mono ?_
    rintro e w2 ⟨g, cap, rfl, hw, hB2⟩
    have HB2 := hide (HB1.out.trans (hB2.mono HB1.out.size))
    have HW := hide hw
    clear hw hB2 b0 b1 b2 b3
    go_wp2_with fail
    refine (HC.out _ g cap w2 HW.out).mono ?_
    rintro e w3 ⟨rfl, rfl⟩
    go_wp2
    go_ret2
    exact ⟨by rw [HX.out] <;> rfl, HB2.out⟩
  · rw [if_neg h0] at hX
    subst hX
    have hne : (mayE r now l != 0) = true := by simpa using h0
    generalize mayE r now l = E at *
    clear h0 hp hn
    obtain ⟨y, ag, p, b⟩ := r
    generalize l.length = n at *
    unfold ruleV at *
    go_enter Try.func7, Try.ntmps7
    go_wp2_with fail
    refine HM.out.mono ?_
    rintro e w1 ⟨rfl, hB1⟩
    go_wp2
    go_ret2
    exact ⟨rfl, HB0.out.trans (hB1.mono HB0.out.size)⟩
end Go.Proofs.Ytjgdegkjkedfcaa
