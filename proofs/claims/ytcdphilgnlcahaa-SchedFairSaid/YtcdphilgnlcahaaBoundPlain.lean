/- The plain law behind SchedBound: by the fair choice the counts stay below the greater one of k and 1, and n - 2 more. -/
import Derived.Test.YtcdphilgnlcahaaRefFair
import Derived.Test.YtcdphilgnlcahaaMost
namespace Go.Proofs.Ytcdphilgnlcahaa
open Go.RowKit

/-- how many of the first n places have P -/
def cntP (P : Nat → Bool) : Nat → Nat
  | 0 => 0
  | n + 1 => cntP P n + if P n then 1 else 0
theorem cntP_le (P : Nat → Bool) (n : Nat) : cntP P n ≤ n := by
  induction n with
  | zero => exact Nat.le_refl _
  | succ n ih => unfold cntP; split <;> omega
theorem cntP_mono {P Q : Nat → Bool} (n : Nat) (h : ∀ j, j < n → P j = true → Q j = true) : cntP P n ≤ cntP Q n := by
  induction n with
  | zero => exact Nat.le_refl _
  | succ n ih =>
    have h1 := ih (fun j hj => h j (by omega))
    have h2 := h n (by omega)
    unfold cntP
    cases hp : P n <;> cases hq : Q n <;> simp_all <;> omega
theorem cntP_lt {P Q : Nat → Bool} (n t : Nat) (h : ∀ j, j < n → P j = true → Q j = true) (ht : t < n) (hp : P t = false) (hq : Q t = true) : cntP P n + 1 ≤ cntP Q n := by
  induction n with
  | zero => omega
  | succ n ih =>
    unfold cntP
    by_cases e : t = n
    · subst e
      have := cntP_mono t (fun j hj => h j (by omega))
      simp [hp, hq]; omega
    · have h1 := ih (fun j hj => h j (by omega)) (by omega)
      have h2 := h n (by omega)
      cases hp : P n <;> cases hq : Q n <;> simp_all <;> omega
theorem cntP_zero {P : Nat → Bool} (n : Nat) (h : ∀ j, j < n → P j = false) : cntP P n = 0 := by
  induction n with
  | zero => rfl
  | succ n ih => unfold cntP; rw [ih (fun j hj => h j (by omega)), h n (by omega)]; rfl
theorem cntP_pos {P : Nat → Bool} (n j : Nat) (hj : j < n) (h : P j = true) : 1 ≤ cntP P n := by
  have := cntP_lt (P := fun _ => false) (Q := P) n j (fun _ _ h => by cases h) hj rfl h
  omega

/-- few have been passed over often -/
def Few (M : Int) (n : Nat) (q : Nat → Int) : Prop := ∀ d : Nat, cntP (fun j => decide (M + d ≤ q j)) n ≤ n - 1 - d

theorem few_le {M : Int} {n : Nat} {q : Nat → Int} (h : Few M n q) (hn : 1 ≤ n) (j : Nat) (hj : j < n) : q j ≤ M + n - 2 := by
  by_cases hle : M + ((n - 1 : Nat) : Int) ≤ q j
  · have h1 := h (n - 1)
    have h2 := cntP_pos (P := fun j => decide (M + ((n - 1 : Nat) : Int) ≤ q j)) n j hj (by simpa using hle)
    omega
  · omega

theorem due_max (k : Int) (q : Nat → Int) (p : Nat → Bool) (n : Nat) : ∀ j, j < n → p j = true → k ≤ q j → ∃ t : Nat, dueAt k q p n = (t : Int) ∧ t < n ∧ p t = true ∧ q j ≤ q t := by
  induction n with
  | zero => intro j hj; omega
  | succ n ih =>
    intro j hj hp hk
    have hor := dueAt_or k q p n
    by_cases e : j = n
    · subst e
      unfold dueAt
      by_cases hc : p j = true ∧ k ≤ q j ∧ (dueAt k q p j < 0 ∨ q (dueAt k q p j).toNat < q j)
      · rw [if_pos hc]; exact ⟨j, rfl, by omega, hp, Int.le_refl _⟩
      · rw [if_neg hc]
        rcases hor with h | ⟨m, hm, h⟩
        · exact absurd ⟨hp, hk, .inl (by omega)⟩ hc
        · refine ⟨m, h, by omega, dueAt_rdy k q p j m h, ?_⟩
          rw [h, Int.toNat_natCast] at hc
          by_cases hl : q m < q j
          · exact absurd ⟨hp, hk, .inr hl⟩ hc
          · omega
    · obtain ⟨t, h1, h2, h3, h4⟩ := ih j (by omega) hp hk
      unfold dueAt
      by_cases hc : p n = true ∧ k ≤ q n ∧ (dueAt k q p n < 0 ∨ q (dueAt k q p n).toNat < q n)
      · rw [if_pos hc]
        refine ⟨n, rfl, by omega, hc.1, ?_⟩
        rcases hc.2.2 with h5 | h5
        · omega
        · rw [h1, Int.toNat_natCast] at h5; omega
      · rw [if_neg hc]; exact ⟨t, h1, by omega, h3, h4⟩

theorem fairN_ok (k : Int) (q : Nat → Int) (p : Nat → Bool) (n : Nat) (pick : Int) (h0 : 0 ≤ pick) (h : 0 ≤ fairN k q p n pick) : ∃ t : Nat, fairN k q p n pick = (t : Int) ∧ t < n ∧ p t = true := by
  unfold fairN at h ⊢
  by_cases hd : 0 ≤ dueAt k q p n
  · rw [if_pos hd] at h ⊢
    rcases dueAt_or k q p n with e | ⟨m, hm, e⟩
    · omega
    · exact ⟨m, e, hm, dueAt_rdy k q p n m e⟩
  · rw [if_neg hd] at h ⊢
    unfold byPick at h ⊢
    by_cases hr : (rdy p n).length = 0
    · rw [if_pos hr] at h; omega
    · rw [if_neg hr]
      refine ⟨_, rfl, ?_⟩
      unfold nxT
      rw [if_neg (by omega), if_neg hr]
      have hlt : pick.toNat % (rdy p n).length < (rdy p n).length := Nat.mod_lt _ (by omega)
      have hm : (rdy p n).getD (pick.toNat % (rdy p n).length) 0 ∈ rdy p n := by rw [List.getD, List.getElem?_eq_getElem hlt]; exact List.getElem_mem hlt
      simp only [rdy, List.mem_filter, List.mem_range] at hm
      exact hm

theorem few_step {k : Int} {n : Nat} {q : Nat → Int} (p : Nat → Bool) (pick : Int) (h0 : 0 ≤ pick) (h : Few (max k 1) n q) (hF : 0 ≤ fairN k q p n pick) : Few (max k 1) n (fairQ q p (fairN k q p n pick)) := by
  obtain ⟨t, ht, htn, hpt⟩ := fairN_ok k q p n pick h0 hF
  rw [ht]
  intro d
  have hself : fairQ q p (t : Int) t = 0 := by unfold fairQ; rw [if_neg (by simp)]
  cases d with
  | zero =>
    have hlt := cntP_lt (P := fun j => decide (max k 1 + ((0 : Nat) : Int) ≤ fairQ q p (t : Int) j)) (Q := fun _ => true) n t (fun _ _ _ => rfl) htn (by simp only [hself]; simp; omega) rfl
    have hle := cntP_le (fun _ => true) n
    omega
  | succ d =>
    by_cases hex : ∃ j, j < n ∧ p j = true ∧ max k 1 + (d : Int) ≤ q j
    · obtain ⟨j, hj, hp, hq⟩ := hex
      obtain ⟨t', e1, e2, e3, e4⟩ := due_max k q p n j hj hp (by omega)
      have e5 : t' = t := by
        unfold fairN at ht
        rw [e1, if_pos (by omega)] at ht
        omega
      subst e5
      have h1 := h d
      have h2 := cntP_lt (P := fun j => decide (max k 1 + ((d + 1 : Nat) : Int) ≤ fairQ q p (t' : Int) j)) (Q := fun j => decide (max k 1 + (d : Int) ≤ q j)) n t'
        (fun x hx hPx => by
          simp only [decide_eq_true_eq] at hPx ⊢
          unfold fairQ at hPx
          split at hPx <;> omega) e2 (by simp only [hself]; simp; omega) (by simp; omega)
      omega
    · rw [cntP_zero]
      · exact Nat.zero_le _
      · intro j hj
        simp only [decide_eq_false_iff_not]
        unfold fairQ
        split
        · rename_i hc
          intro hle
          exact hex ⟨j, hj, hc.1, by omega⟩
        · omega

theorem few_zero (k : Int) (n : Nat) : Few (max k 1) n (fun _ => 0) := by
  intro d
  rw [cntP_zero]
  · exact Nat.zero_le _
  · intro j _; simp; omega

theorem mx_le (q : Nat → Int) (p : Nat → Bool) (t m B : Int) (hm : m ≤ B) (k : Nat) (h : ∀ j, j < k → p j = true → (j : Int) ≠ t → q j + 1 ≤ B) : mx q p t m k ≤ B := by
  induction k with
  | zero => exact hm
  | succ k ih =>
    have h1 := ih (fun j hj => h j (by omega))
    unfold mx
    split
    · rename_i hc
      have := h k (by omega) hc.1 hc.2
      omega
    · exact h1

/-- the bound on the greatest count, carried on -/
def BoundOk (k : Int) (n : Nat) (m : Int) : Prop := 0 ≤ m ∧ (n = 1 → m = 0) ∧ (1 < n → m ≤ max k 1 + n - 2)

theorem bound_step {k : Int} {n : Nat} {q : Nat → Int} {m : Int} (p : Nat → Bool) (pick : Int) (hn : 1 ≤ n) (h0 : 0 ≤ pick) (hq : ∀ j, 0 ≤ q j) (h : Few (max k 1) n q) (hb : BoundOk k n m) (hF : 0 ≤ fairN k q p n pick) :
    BoundOk k n (mx q p (fairN k q p n pick) m n) := by
  have hs := few_step p pick h0 h hF
  obtain ⟨t, ht, htn, hpt⟩ := fairN_ok k q p n pick h0 hF
  rw [ht] at hs ⊢
  have hstep : ∀ j, j < n → p j = true → (j : Int) ≠ (t : Int) → q j + 1 ≤ max k 1 + n - 2 := by
    intro j hj hp hne
    have := few_le hs hn j hj
    unfold fairQ at this
    rwa [if_pos ⟨hp, hne⟩] at this
  refine ⟨?_, ?_, ?_⟩
  · clear hstep hs
    have : ∀ x, 0 ≤ mx q p (t : Int) m x := by
      intro x
      induction x with
      | zero => exact hb.1
      | succ x ih => unfold mx; have := hq x; split <;> omega
    exact this n
  · intro e
    subst e
    have h2 := hb.2.1 rfl
    have h3 : t = 0 := by omega
    subst h3
    unfold mx mx
    rw [if_neg (by simp)]
    exact h2
  · intro hn1
    exact mx_le q p t m _ (hb.2.2 hn1) n hstep
end Go.Proofs.Ytcdphilgnlcahaa
