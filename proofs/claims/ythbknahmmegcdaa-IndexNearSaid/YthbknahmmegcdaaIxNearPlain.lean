/- Plain laws of IndexNear: the batches' spots and those that the index takes of them. -/
import Derived.Test.YthbknahmmegcdaaIxWF
namespace Go.Proofs.Ythbknahmmegcdaa
open Go.RowKit
set_option linter.unusedVariables false

def offN (nc : Nat) (ct : Nat → Nat) : Nat → Nat
  | 0 => 0
  | k + 1 => offN nc ct k + 1 + (if k < nc then ct k else 0)
section
variable {nc : Nat} {ct sz : Nat → Nat} {st : Int}
theorem offN_lt : ∀ {a b : Nat}, a < b → offN nc ct a < offN nc ct b := by
  intro a b h
  induction b with
  | zero => omega
  | succ b ih =>
    have h0 : offN nc ct (b + 1) = offN nc ct b + 1 + (if b < nc then ct b else 0) := rfl
    by_cases e : a = b
    · rw [e]; omega
    · have := ih (by omega); omega
theorem offN_le (hct : ∀ j, j < nc → ct j < 256) : ∀ k, offN nc ct k ≤ 256 * k
  | 0 => by simp [offN]
  | k + 1 => by
    have h0 : offN nc ct (k + 1) = offN nc ct k + 1 + (if k < nc then ct k else 0) := rfl
    have := offN_le hct k
    split at h0
    · have := hct k (by assumption); omega
    · omega
theorem cutsAt_lt : ∀ {a b : Nat}, a < b → cutsAt sz a < cutsAt sz b := by
  intro a b h
  induction b with
  | zero => omega
  | succ b ih =>
    have h0 : cutsAt sz (b + 1) = cutsAt sz b + sz b + 1 := rfl
    by_cases e : a = b
    · rw [e]; omega
    · have := ih (by omega); omega
/-- the k-th batch's spot -/
def candN (nc : Nat) (ct sz : Nat → Nat) (k : Nat) : S2 := ⟨(offN nc ct k : Nat), (cutsAt sz k : Nat)⟩
def candL (nc : Nat) (ct sz : Nat → Nat) (k : Nat) : List S2 := (List.range k).map (candN nc ct sz)
theorem candL_succ (k : Nat) : candL nc ct sz (k + 1) = candL nc ct sz k ++ [candN nc ct sz k] := by simp [candL, List.range_succ]
@[simp] theorem candL_length (k : Nat) : (candL nc ct sz k).length = k := by simp [candL]
theorem candL_get {k j : Nat} (h : j < k) : (candL nc ct sz k).getD j default = candN nc ct sz j := by simp [candL, List.getD_eq_getElem?_getD, h]
/-- the index behind k batches -/
def nearL (st : Int) (nc : Nat) (ct sz : Nat → Nat) : Nat → List S2
  | 0 => []
  | k + 1 => addL st (nearL st nc ct sz k) (candN nc ct sz k)
theorem nearL_WF : ∀ k, WF st (nearL st nc ct sz k)
  | 0 => WF.nil st
  | k + 1 => (nearL_WF k).add _
theorem nearL_len : ∀ k, (nearL st nc ct sz k).length ≤ k
  | 0 => Nat.le_refl _
  | k + 1 => by
    have := nearL_len k
    show (addL _ _ _).length ≤ _
    unfold addL
    split
    · rw [List.length_append, List.length_singleton]; omega
    · omega
/-- each of the index's spots is one of the batches ahead -/
theorem nearL_mem : ∀ (k : Nat) (s : S2), s ∈ nearL st nc ct sz k → ∃ j, j < k ∧ s = candN nc ct sz j
  | 0, s, h => by simp [nearL] at h
  | k + 1, s, h => by
    have h' : s ∈ addL st (nearL st nc ct sz k) (candN nc ct sz k) := h
    unfold addL at h'
    split at h'
    · rcases List.mem_append.1 h' with h1 | h1
      · obtain ⟨j, hj, e⟩ := nearL_mem k s h1
        exact ⟨j, by omega, e⟩
      · exact ⟨k, by omega, by simpa using h1⟩
    · obtain ⟨j, hj, e⟩ := nearL_mem k s h'
      exact ⟨j, by omega, e⟩
theorem getD_mem {l : List S2} {a : Nat} (h : a < l.length) : l.getD a default ∈ l := by
  simp [List.getD_eq_getElem?_getD, h]
theorem near_may (hct : ∀ j, j < nc → ct j < 256) {k : Nat} (hk : k ≤ 300) (hp : cutsAt sz k ≤ 16777216) : mayB (nearL st nc ct sz k) (candN nc ct sz k) = true := by
  have h1 := offN_le hct k
  refine may_mk ⟨Int.natCast_nonneg _, ?_, Int.natCast_nonneg _, ?_⟩ (fun h0 => ?_)
  · show ((offN nc ct k : Nat) : Int) ≤ _; omega
  · show ((cutsAt sz k : Nat) : Int) ≤ _; omega
  · obtain ⟨j, hj, e⟩ := nearL_mem k (lastS (nearL st nc ct sz k)) (getD_mem (by omega))
    rw [e]
    have h2 := offN_lt (nc := nc) (ct := ct) hj
    have h3 := cutsAt_lt (sz := sz) hj
    exact ⟨by show ((offN nc ct j : Nat) : Int) < (offN nc ct k : Nat); omega, by show ((cutsAt sz j : Nat) : Int) < (cutsAt sz k : Nat); omega⟩
theorem near_maynot {k : Nat} (h : mayB (nearL st nc ct sz k) (candN nc ct sz k) = false) (hct : ∀ j, j < nc → ct j < 256) (hk : k ≤ 300) : 16777216 < cutsAt sz k := by
  by_cases hp : cutsAt sz k ≤ 16777216
  · rw [near_may hct hk hp] at h; cases h
  · omega
/-- what is added later stands behind -/
theorem nearL_app : ∀ (K i : Nat), i < K → ∃ R, nearL st nc ct sz K = nearL st nc ct sz (i + 1) ++ R ∧ ∀ s ∈ R, ((offN nc ct i : Nat) : Int) < s.o ∧ ((cutsAt sz i : Nat) : Int) < s.p
  | 0, i, h => by omega
  | K + 1, i, h => by
    by_cases e : i = K
    · subst e
      exact ⟨[], by simp, fun s hs => by simp at hs⟩
    · obtain ⟨R, h1, h2⟩ := nearL_app K i (by omega)
      have h3 : nearL st nc ct sz (K + 1) = addL st (nearL st nc ct sz K) (candN nc ct sz K) := rfl
      rw [h3]
      unfold addL
      split
      · refine ⟨R ++ [candN nc ct sz K], by rw [h1, List.append_assoc], fun s hs => ?_⟩
        rcases List.mem_append.1 hs with hs | hs
        · exact h2 s hs
        · obtain rfl : s = candN nc ct sz K := by simpa using hs
          have h4 := offN_lt (nc := nc) (ct := ct) (show i < K by omega)
          have h5 := cutsAt_lt (sz := sz) (show i < K by omega)
          exact ⟨by show _ < ((offN nc ct K : Nat) : Int); omega, by show _ < ((cutsAt sz K : Nat) : Int); omega⟩
      · exact ⟨R, h1, h2⟩
theorem firstT_app {p : S2 → Bool} {A R : List S2} (hA : ∀ s ∈ A, p s = false) (hR : ∀ s ∈ R, p s = true) : firstT p (A ++ R) = A.length := by
  refine (firstT_eq p (A ++ R) A.length (by simp) (fun a ha => ?_) (fun a h1 h2 => ?_)).symm
  · have : (A ++ R).getD a default = A.getD a default := by rw [List.getD_eq_getElem?_getD, List.getElem?_append_left ha, List.getD_eq_getElem?_getD]
    rw [this]
    exact hA _ (getD_mem ha)
  · have : (A ++ R).getD a default = R.getD (a - A.length) default := by rw [List.getD_eq_getElem?_getD, List.getElem?_append_right h1, List.getD_eq_getElem?_getD]
    rw [this]
    rw [List.length_append] at h2
    exact hR _ (getD_mem (by omega))
/-- what is found of the i-th batch -/
structure NearF (st : Int) (nc : Nat) (ct sz : Nat → Nat) (K i : Nat) (s : S2) : Prop where
  fo : lastR (fun s => decide (((offN nc ct i : Nat) : Int) < s.o)) (nearL st nc ct sz K) = s
  bo : lastB (fun s => decide (((offN nc ct i : Nat) : Int) < s.o)) (nearL st nc ct sz K) = true
  fp : lastR (fun s => decide (((cutsAt sz i : Nat) : Int) < s.p)) (nearL st nc ct sz K) = s
  bp : lastB (fun s => decide (((cutsAt sz i : Nat) : Int) < s.p)) (nearL st nc ct sz K) = true
  le : s.o ≤ (offN nc ct i : Nat)
  near : ((cutsAt sz i : Nat) : Int) - s.p < st
  lo : 0 ≤ s.p ∧ s.p ≤ (cutsAt sz i : Nat)
theorem near_finds (hst : 1 ≤ st) (hct : ∀ j, j < nc → ct j < 256) {K i : Nat} (hK : K ≤ 300) (hi : i < K) (hp : cutsAt sz i ≤ 16777216) : NearF st nc ct sz K i (lastS (nearL st nc ct sz (i + 1))) := by
  obtain ⟨R, h1, h2⟩ := nearL_app (st := st) (nc := nc) (ct := ct) (sz := sz) K i hi
  have hm := near_may (st := st) (nc := nc) (ct := ct) (sz := sz) hct (show i ≤ 300 by omega) hp
  have hd : nearL st nc ct sz (i + 1) = addL st (nearL st nc ct sz i) (candN nc ct sz i) := rfl
  have hA : ∀ s ∈ nearL st nc ct sz (i + 1), s.o ≤ (offN nc ct i : Nat) ∧ 0 ≤ s.p ∧ s.p ≤ (cutsAt sz i : Nat) := by
    intro s hs
    obtain ⟨j, hj, rfl⟩ := nearL_mem _ s hs
    by_cases e : j = i
    · subst e
      exact ⟨Int.le_refl _, Int.natCast_nonneg _, Int.le_refl _⟩
    · have h4 := offN_lt (nc := nc) (ct := ct) (show j < i by omega)
      have h5 := cutsAt_lt (sz := sz) (show j < i by omega)
      exact ⟨by show ((offN nc ct j : Nat) : Int) ≤ _; omega, Int.natCast_nonneg _, by show ((cutsAt sz j : Nat) : Int) ≤ _; omega⟩
  have hne : (nearL st nc ct sz (i + 1)).length ≠ 0 ∧ ((cutsAt sz i : Nat) : Int) - (lastS (nearL st nc ct sz (i + 1))).p < st := by
    rw [hd]
    cases hb : addB st (nearL st nc ct sz i) (candN nc ct sz i) with
    | true =>
      have e : addL st (nearL st nc ct sz i) (candN nc ct sz i) = nearL st nc ct sz i ++ [candN nc ct sz i] := by unfold addL; rw [if_pos hb]
      rw [e]
      refine ⟨by simp, ?_⟩
      have e2 : lastS (nearL st nc ct sz i ++ [candN nc ct sz i]) = candN nc ct sz i := by simp [lastS]
      rw [e2]
      show ((cutsAt sz i : Nat) : Int) - (cutsAt sz i : Nat) < st
      omega
    | false =>
      have e : addL st (nearL st nc ct sz i) (candN nc ct sz i) = nearL st nc ct sz i := by unfold addL; rw [if_neg (by rw [hb]; simp)]
      rw [e]
      have hn : nearB st (nearL st nc ct sz i) (candN nc ct sz i) = true := by
        unfold addB at hb
        rw [hm] at hb
        simpa using hb
      rw [near_parts] at hn
      exact hn
  have hT : ∀ (p : S2 → Bool), (∀ s ∈ nearL st nc ct sz (i + 1), p s = false) → (∀ s ∈ R, p s = true) → lastR p (nearL st nc ct sz K) = lastS (nearL st nc ct sz (i + 1)) ∧ lastB p (nearL st nc ct sz K) = true := by
    intro p hpa hpr
    have e := firstT_app hpa hpr
    rw [← h1] at e
    unfold lastR lastB
    rw [e, if_neg hne.1, decide_eq_false hne.1]
    refine ⟨?_, rfl⟩
    rw [h1]
    unfold lastS
    rw [List.getD_eq_getElem?_getD, List.getElem?_append_left (by omega), List.getD_eq_getElem?_getD]
  have hlast := hA (lastS (nearL st nc ct sz (i + 1))) (getD_mem (by omega))
  have t1 := hT (fun s => decide (((offN nc ct i : Nat) : Int) < s.o)) (fun s hs => decide_eq_false (by have := (hA s hs).1; omega)) (fun s hs => decide_eq_true (h2 s hs).1)
  have t2 := hT (fun s => decide (((cutsAt sz i : Nat) : Int) < s.p)) (fun s hs => decide_eq_false (by have := (hA s hs).2.2; omega)) (fun s hs => decide_eq_true (h2 s hs).2)
  exact ⟨t1.1, t1.2, t2.1, t2.2, hlast.1, hne.2, hlast.2⟩
end
end Go.Proofs.Ythbknahmmegcdaa
