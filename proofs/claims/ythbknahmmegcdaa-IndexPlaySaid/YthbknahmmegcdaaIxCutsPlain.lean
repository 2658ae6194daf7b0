/- Plain laws of IndexCuts: spots that rise. -/
import Derived.Test.YthbknahmmegcdaaIxCut3
namespace Go.Proofs.Ythbknahmmegcdaa
open Go.RowKit
set_option linter.unusedVariables false

/-- offsets and places rise -/
def Rising (l : List S2) : Prop := ∀ a b, a < b → b < l.length → (l.getD a default).o < (l.getD b default).o ∧ (l.getD a default).p < (l.getD b default).p
def cutsAt (sz : Nat → Nat) : Nat → Nat
  | 0 => 0
  | k + 1 => cutsAt sz k + sz k + 1
def cutsL (st : Int) (sz : Nat → Nat) : Nat → List S2
  | 0 => []
  | k + 1 => addL st (cutsL st sz k) ⟨(k : Nat), (cutsAt sz k : Nat)⟩
theorem getD_last (l : List S2) (s : S2) (a : Nat) : (l ++ [s]).getD a default = if a < l.length then l.getD a default else if a = l.length then s else default := by
  rw [List.getD_eq_getElem?_getD]
  split
  · rename_i h
    rw [List.getElem?_append_left h, List.getD_eq_getElem?_getD]
  · rename_i h
    rw [List.getElem?_append_right (by omega)]
    split
    · rename_i e
      rw [e, Nat.sub_self]
      rfl
    · rename_i e
      rw [List.getElem?_eq_none (by simp; omega)]
      rfl
structure CInv (sz : Nat → Nat) (k : Nat) (l : List S2) : Prop where
  rise : Rising l
  bnd : ∀ a, a < l.length → 0 ≤ (l.getD a default).o ∧ (l.getD a default).o < (k : Int) ∧ 0 ≤ (l.getD a default).p ∧ (l.getD a default).p < (cutsAt sz k : Nat)
  len : l.length ≤ k
theorem CInv.zero (sz : Nat → Nat) : CInv sz 0 [] := ⟨fun a b _ h => by simp at h, fun a h => by simp at h, Nat.le_refl _⟩
theorem CInv.succ {st : Int} {sz : Nat → Nat} {k : Nat} {l : List S2} (h : CInv sz k l) : CInv sz (k + 1) (addL st l ⟨(k : Nat), (cutsAt sz k : Nat)⟩) := by
  have hat : (cutsAt sz (k + 1) : Nat) = cutsAt sz k + sz k + 1 := rfl
  unfold addL
  split
  · refine ⟨?_, ?_, ?_⟩
    · intro a b hab hb
      rw [List.length_append, List.length_singleton] at hb
      rw [getD_last, getD_last, if_pos (by omega)]
      split
      · exact h.rise a b hab (by assumption)
      · rw [if_pos (by omega)]
        have := h.bnd a (by omega)
        exact ⟨this.2.1, this.2.2.2⟩
    · intro a ha
      rw [List.length_append, List.length_singleton] at ha
      rw [getD_last]
      split
      · have := h.bnd a (by assumption)
        omega
      · rw [if_pos (by omega)]
        simp only
        omega
    · rw [List.length_append, List.length_singleton]
      have := h.len
      omega
  · refine ⟨h.rise, fun a ha => ?_, by have := h.len; omega⟩
    have := h.bnd a ha
    omega
theorem cutsL_inv (st : Int) (sz : Nat → Nat) : ∀ k, CInv sz k (cutsL st sz k)
  | 0 => CInv.zero sz
  | k + 1 => (cutsL_inv st sz k).succ
theorem cuts_may {st : Int} {sz : Nat → Nat} {k : Nat} (hk : k ≤ 300) (hat : cutsAt sz k ≤ 16777216) : addE (cutsL st sz k) ⟨(k : Nat), (cutsAt sz k : Nat)⟩ = 0 := by
  have h := cutsL_inv st sz k
  unfold addE
  rw [if_pos]
  unfold mayB
  simp only [Bool.and_eq_true, Bool.or_eq_true, decide_eq_true_eq]
  refine ⟨by omega, ?_⟩
  by_cases h0 : (cutsL st sz k).length = 0
  · exact .inl h0
  · right
    have := h.bnd ((cutsL st sz k).length - 1) (by omega)
    exact ⟨this.2.1, this.2.2.2⟩
theorem cuts_lo {st : Int} {sz : Nat → Nat} {k : Nat} : (cutsL st sz k).length ≠ 0 → 0 ≤ (lastS (cutsL st sz k)).p := fun h0 => ((cutsL_inv st sz k).bnd _ (by omega)).2.2.1
/-- behind the cut all stand at the place or behind it -/
theorem rising_cut {l : List S2} (h : Rising l) (x : Int) : ∀ a, cutN x l ≤ a → a < l.length → decide (x ≤ (l.getD a default).p) = true := by
  intro a h1 h2
  have h0 := firstT_at (fun s => decide (x ≤ s.p)) l (by unfold cutN at h1; omega)
  simp only [decide_eq_true_eq] at h0 ⊢
  by_cases e : cutN x l = a
  · unfold cutN at e
    rw [← e]
    exact h0
  · have := (h (cutN x l) a (by omega) h2).2
    unfold cutN at this
    omega
/-- those ahead of a place, of a part -/
def aheadL (x : Int) (l : List S2) : List S2 := l.filter (fun s => decide (s.p < x))
theorem ahead_take {l : List S2} (h : Rising l) (x : Int) : aheadL x l = l.take (cutN x l) := by
  have hall : ∀ (l : List S2), (∀ a, a < l.length → (l.getD a default).p < x) → aheadL x l = l := fun l h => by
    unfold aheadL
    rw [List.filter_eq_self]
    intro s hs
    obtain ⟨a, ha, e⟩ := List.getElem_of_mem hs
    have := h a ha
    rw [List.getD_eq_getElem?_getD, List.getElem?_eq_getElem ha] at this
    simp only [Option.getD_some, e] at this
    simpa using this
  have hnone : ∀ (l : List S2), (∀ a, a < l.length → x ≤ (l.getD a default).p) → aheadL x l = [] := fun l h => by
    unfold aheadL
    rw [List.filter_eq_nil_iff]
    intro s hs
    obtain ⟨a, ha, e⟩ := List.getElem_of_mem hs
    have := h a ha
    rw [List.getD_eq_getElem?_getD, List.getElem?_eq_getElem ha] at this
    simp only [Option.getD_some, e] at this
    simp; omega
  have hsplit : aheadL x l = aheadL x (l.take (cutN x l)) ++ aheadL x (l.drop (cutN x l)) := by
    unfold aheadL
    rw [← List.filter_append, List.take_append_drop]
  rw [hsplit, hall, hnone, List.append_nil]
  · intro a ha
    rw [List.length_drop] at ha
    have := rising_cut h x (cutN x l + a) (by omega) (by omega)
    simp only [decide_eq_true_eq] at this
    rw [List.getD_eq_getElem?_getD, List.getElem?_drop, ← List.getD_eq_getElem?_getD]
    exact this
  · intro a ha
    rw [List.length_take] at ha
    have := firstT_before (fun s => decide (x ≤ s.p)) l a (by unfold cutN at ha; omega)
    simp only [decide_eq_false_iff_not] at this
    rw [List.getD_eq_getElem?_getD, List.getElem?_take_of_lt (by omega), ← List.getD_eq_getElem?_getD]
    omega
/-- what is found at an offset behind all -/
theorem lastR_all {l : List S2} {x : Int} (h : ∀ a, a < l.length → (l.getD a default).o ≤ x) : firstT (fun s => decide (x < s.o)) l = l.length := by
  symm
  refine firstT_eq _ l l.length (Nat.le_refl _) (fun a ha => ?_) (fun a h1 h2 => by omega)
  have := h a ha
  simp only [decide_eq_false_iff_not]
  omega
theorem Rising.take {l : List S2} (h : Rising l) (n : Nat) : Rising (l.take n) := fun a b hab hb => by
  rw [List.length_take] at hb
  have e : ∀ j, j < n → (l.take n).getD j default = l.getD j default := fun j hj => by rw [List.getD_eq_getElem?_getD, List.getElem?_take_of_lt hj, ← List.getD_eq_getElem?_getD]
  rw [e a (by omega), e b (by omega)]
  exact h a b hab (by omega)
theorem Rising.mono {l : List S2} (h : Rising l) : ∀ a b, a ≤ b → b < l.length → (l.getD a default).o ≤ (l.getD b default).o := fun a b hab hb => by
  by_cases e : a = b
  · rw [e]; exact Int.le_refl _
  · have := (h a b (by omega) hb).1; omega
end Go.Proofs.Ythbknahmmegcdaa
