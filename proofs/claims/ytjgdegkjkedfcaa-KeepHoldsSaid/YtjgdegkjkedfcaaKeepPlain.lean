/- Plain laws of keep: who goes, by a rule that keeps less or later; when more go. -/
import Derived.Test.YtjgdegkjkedfcaaKeepNext
namespace Go.Proofs.Ytjgdegkjkedfcaa

/-- a rule that keeps no more -/
structure Less (r r2 : R4) : Prop where
  w : r.w ≤ r2.w
  y : 0 < r.y → 0 < r2.y ∧ r2.y ≤ r.y
  a : 0 < r.a → 0 < r2.a ∧ r2.a ≤ r.a
  p : 0 < r.p → 0 < r2.p ∧ r2.p ≤ r.p
theorem Less.refl (r : R4) : Less r r := ⟨Int.le_refl _, fun h => ⟨h, Int.le_refl _⟩, fun h => ⟨h, Int.le_refl _⟩, fun h => ⟨h, Int.le_refl _⟩⟩
theorem goesB_iff {x : Int} : goesB x = true ↔ 1 ≤ x ∧ x ≤ 3 := by simp [goesB]
theorem rsn_mono {r r2 : R4} {now now2 : Int} (h : Less r r2) (hn : now ≤ now2) (p : P3) (rest : List P3) (hg : goesB (rsn r now p rest) = true) : goesB (rsn r2 now2 p rest) = true := by
  cases rest with
  | nil => simp [rsn, goesB] at hg
  | cons q rest =>
    rw [goesB_iff] at hg ⊢
    simp only [rsn] at hg ⊢
    have h1 := h.w
    have h2 := h.y
    have h3 := h.a
    have h4 := h.p
    by_cases c0 : r.w < q.b
    · rw [if_pos c0] at hg; omega
    · rw [if_neg c0] at hg
      rw [if_neg (by omega)]
      by_cases d1 : 0 < r2.y ∧ r2.y ≤ bytesS (q :: rest)
      · rw [if_pos d1]; omega
      · rw [if_neg d1]
        have c1 : ¬ (0 < r.y ∧ r.y ≤ bytesS (q :: rest)) := fun c => d1 ⟨(h2 c.1).1, by have := (h2 c.1).2; omega⟩
        rw [if_neg c1] at hg
        by_cases d2 : 0 < r2.a ∧ r2.a < now2 - p.t
        · rw [if_pos d2]; omega
        · rw [if_neg d2]
          have c2 : ¬ (0 < r.a ∧ r.a < now - p.t) := fun c => d2 ⟨(h3 c.1).1, by have := (h3 c.1).2; omega⟩
          rw [if_neg c2] at hg
          by_cases d3 : 0 < r2.p ∧ r2.p ≤ ((q :: rest).length : Int)
          · rw [if_pos d3]; omega
          · rw [if_neg d3]
            have c3 : ¬ (0 < r.p ∧ r.p ≤ ((q :: rest).length : Int)) := fun c => d3 ⟨(h4 c.1).1, by have := (h4 c.1).2; omega⟩
            rw [if_neg c3] at hg
            omega
theorem cnt_mono {r r2 : R4} {now now2 : Int} (h : Less r r2) (hn : now ≤ now2) (l : List P3) : cntL (alsL r now l) ≤ cntL (alsL r2 now2 l) := by
  induction l with
  | nil => exact Nat.le_refl _
  | cons p l ih =>
    simp only [alsL, cntL]
    by_cases hg : goesB (rsn r now p l) = true
    · rw [if_pos hg, if_pos (rsn_mono h hn p l hg)]; omega
    · rw [if_neg hg]; omega
/-- those ahead of the count go, the one at it does not -/
theorem cnt_lt (ls : List Int) (i : Nat) (h : i < cntL ls) : goesB (ls.getD i 0) = true := by
  induction ls generalizing i with
  | nil => simp [cntL] at h
  | cons x ls ih =>
    simp only [cntL] at h
    split at h
    · rename_i hx
      cases i with
      | zero => simpa using hx
      | succ i => simpa using ih i (by omega)
    · omega
theorem cnt_at (ls : List Int) : goesB (ls.getD (cntL ls) 0) = false := by
  induction ls with
  | nil => rfl
  | cons x ls ih =>
    simp only [cntL]
    split
    · simpa using ih
    · rename_i hx; simpa using hx
theorem cnt_ge (ls : List Int) (n : Nat) (h : ∀ i, i < n → goesB (ls.getD i 0) = true) : n ≤ cntL ls := by
  induction n with
  | zero => omega
  | succ n ih =>
    have h1 := ih (fun i hi => h i (by omega))
    by_cases e : cntL ls = n
    · have h2 := cnt_at ls
      rw [e, h n (by omega)] at h2
      cases h2
    · omega
theorem cnt_le_of (ls : List Int) (n : Nat) (h : goesB (ls.getD n 0) = false) : cntL ls ≤ n := by
  apply Nat.le_of_not_lt
  intro hlt
  rw [cnt_lt ls n hlt] at h
  cases h
theorem rsn_last (r : R4) (now : Int) (l : List P3) (i : Nat) (h : i < l.length) : (alsL r now l).getD i 0 = 4 ↔ i + 1 = l.length := by
  rw [alsL_getD _ _ _ _ h]
  by_cases hi : i + 1 = l.length
  · rw [hi, List.drop_length]
    simp [rsn]
  · rw [rsn_more _ _ _ _ _ (by omega)]
    constructor
    · intro e
      split at e
      · omega
      · split at e
        · omega
        · split at e
          · omega
          · split at e <;> omega
    · intro e; exact absurd e hi
theorem rsn_range (r : R4) (now : Int) (p : P3) (rest : List P3) : 0 ≤ rsn r now p rest ∧ rsn r now p rest ≤ 5 := by
  cases rest with
  | nil => simp [rsn]
  | cons q rest =>
    simp only [rsn]
    split
    · omega
    · split
      · omega
      · split
        · omega
        · split <;> omega
theorem cnt_lt_len (r : R4) (now : Int) (l : List P3) (h : 0 < l.length) : cntL (alsL r now l) < l.length := by
  have h1 := (rsn_last r now l (l.length - 1) (by omega)).2 (by omega)
  have h2 := cnt_le_of (alsL r now l) (l.length - 1) (by rw [h1]; rfl)
  omega
theorem alsL_drop (r : R4) (now : Int) (l : List P3) (n : Nat) : alsL r now (l.drop n) = (alsL r now l).drop n := by
  induction l generalizing n with
  | nil => simp [alsL]
  | cons p l ih => cases n with
    | zero => rfl
    | succ n => simpa [alsL] using ih n
theorem cnt_drop (ls : List Int) : cntL (ls.drop (cntL ls)) = 0 := by
  by_cases h : cntL ls < ls.length
  · rw [cnt_step ls _ h, cnt_at]; rfl
  · rw [List.drop_eq_nil_of_le (by omega)]; rfl
/-- what Why tells: nought where it stays, 1 to 3 where it goes, 4 the last, 5 below, 6 ahead -/
theorem why_facts (r : R4) (now : Int) (l : List P3) (i : Nat) (h : i < l.length) (h0 : mayE r now l = 0) :
    ((whyN r now i l = 1 ∨ whyN r now i l = 2 ∨ whyN r now i l = 3) ∧ i < cntL (alsL r now l) ∧ i + 1 ≠ l.length) ∨
    (whyN r now i l = 6 ∧ cntL (alsL r now l) < i ∧ i + 1 ≠ l.length) ∨
    ((whyN r now i l = 0 ∨ whyN r now i l = 5) ∧ cntL (alsL r now l) ≤ i ∧ i + 1 ≠ l.length) ∨
    (whyN r now i l = 4 ∧ cntL (alsL r now l) ≤ i ∧ i + 1 = l.length) := by
  have hl := rsn_last r now l i h
  have hrg := rsn_range r now (l.getD i default) (l.drop (i + 1))
  rw [← alsL_getD _ _ _ _ h] at hrg
  unfold whyN
  rw [if_pos ⟨h0, by omega, by omega⟩, Int.toNat_natCast]
  by_cases hg : goesB ((alsL r now l).getD i 0) = true
  · have hg' := goesB_iff.1 hg
    by_cases hc : (cntL (alsL r now l) : Int) ≤ (i : Int)
    · rw [if_pos ⟨hg, hc⟩]
      have hne : cntL (alsL r now l) ≠ i := fun e => by
        have := cnt_at (alsL r now l)
        rw [e, hg] at this
        cases this
      exact .inr (.inl ⟨rfl, by omega, fun e => by have := hl.2 e; omega⟩)
    · rw [if_neg (fun c => hc c.2)]
      exact .inl ⟨by omega, by omega, fun e => by have := hl.2 e; omega⟩
  · have hge : cntL (alsL r now l) ≤ i := cnt_le_of _ _ (by simpa using hg)
    rw [if_neg (fun c => hg c.1)]
    by_cases e4 : i + 1 = l.length
    · exact .inr (.inr (.inr ⟨hl.2 e4, hge, e4⟩))
    · have hn4 : (alsL r now l).getD i 0 ≠ 4 := fun e => e4 (hl.1 e)
      have hng : ¬ (1 ≤ (alsL r now l).getD i 0 ∧ (alsL r now l).getD i 0 ≤ 3) := fun c => hg (goesB_iff.2 c)
      exact .inr (.inr (.inl ⟨by omega, hge, e4⟩))
/-- a rule that asks nothing -/
theorem cnt_none (now w : Int) (l : List P3) : cntL (alsL ⟨0, 0, 0, w⟩ now l) = 0 := by
  cases l with
  | nil => rfl
  | cons p l =>
    simp only [alsL, cntL]
    have : goesB (rsn ⟨0, 0, 0, w⟩ now p l) = false := by
      cases l with
      | nil => rfl
      | cons q l =>
        simp only [rsn]
        split
        · rfl
        · rw [if_neg (by omega), if_neg (by omega), if_neg (by omega)]; rfl
    rw [this]
    rfl
end Go.Proofs.Ytjgdegkjkedfcaa
