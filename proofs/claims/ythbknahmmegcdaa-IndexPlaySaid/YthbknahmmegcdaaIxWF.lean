/- Plain laws: an index's spots in order; its bytes are read as what it is. -/
import Derived.Test.YthbknahmmegcdaaIxCutsPlain
import Derived.Test.YthbknahmmegcdaaIxBytes
import Derived.Test.YthbknahmmegcdaaIxRead
namespace Go.Proofs.Ythbknahmmegcdaa
open Go.RowKit
set_option linter.unusedVariables false

structure WF (st : Int) (l : List S2) : Prop where
  rise : Rising l
  inr : ∀ a, a < l.length → 0 ≤ (l.getD a default).o ∧ (l.getD a default).o ≤ 9007199254740992 ∧ 0 ≤ (l.getD a default).p ∧ (l.getD a default).p ≤ 16777216
  gap : ∀ a, a + 1 < l.length → st ≤ (l.getD (a + 1) default).p - (l.getD a default).p
theorem WF.nil (st : Int) : WF st [] := ⟨fun a b _ h => by simp at h, fun a h => by simp at h, fun a h => by simp at h⟩
theorem may_parts {l : List S2} {s : S2} (h : mayB l s = true) : (0 ≤ s.o ∧ s.o ≤ 9007199254740992 ∧ 0 ≤ s.p ∧ s.p ≤ 16777216) ∧ (l.length ≠ 0 → (lastS l).o < s.o ∧ (lastS l).p < s.p) := by
  unfold mayB at h
  simp only [Bool.and_eq_true, Bool.or_eq_true, decide_eq_true_eq] at h
  exact ⟨h.1, fun h0 => h.2.resolve_left h0⟩
theorem may_mk {l : List S2} {s : S2} (h : 0 ≤ s.o ∧ s.o ≤ 9007199254740992 ∧ 0 ≤ s.p ∧ s.p ≤ 16777216) (h2 : l.length ≠ 0 → (lastS l).o < s.o ∧ (lastS l).p < s.p) : mayB l s = true := by
  unfold mayB
  simp only [Bool.and_eq_true, Bool.or_eq_true, decide_eq_true_eq]
  refine ⟨h, ?_⟩
  by_cases h0 : l.length = 0
  · exact .inl h0
  · exact .inr (h2 h0)
theorem near_parts {st : Int} {l : List S2} {s : S2} : nearB st l s = true ↔ l.length ≠ 0 ∧ s.p - (lastS l).p < st := by
  unfold nearB
  simp
theorem add_parts {st : Int} {l : List S2} {s : S2} (h : addB st l s = true) : mayB l s = true ∧ (l.length ≠ 0 → st ≤ s.p - (lastS l).p) := by
  unfold addB at h
  simp only [Bool.and_eq_true, Bool.not_eq_true'] at h
  refine ⟨h.1, fun h0 => ?_⟩
  have h2 : ¬ nearB st l s = true := by rw [h.2]; simp
  rw [near_parts] at h2
  omega
theorem add_mk {st : Int} {l : List S2} {s : S2} (h : mayB l s = true) (h2 : l.length ≠ 0 → st ≤ s.p - (lastS l).p) : addB st l s = true := by
  unfold addB
  simp only [Bool.and_eq_true, Bool.not_eq_true']
  refine ⟨h, ?_⟩
  cases hn : nearB st l s with
  | false => rfl
  | true =>
    rw [near_parts] at hn
    have := h2 hn.1
    omega
theorem WF.add {st : Int} {l : List S2} (h : WF st l) (s : S2) : WF st (addL st l s) := by
  unfold addL
  split
  · rename_i ha
    obtain ⟨hm, hg⟩ := add_parts ha
    obtain ⟨hr, hl⟩ := may_parts hm
    unfold lastS at hl hg
    refine ⟨?_, ?_, ?_⟩
    · intro a b hab hb
      rw [List.length_append, List.length_singleton] at hb
      rw [getD_last, getD_last, if_pos (by omega)]
      split
      · exact h.rise a b hab (by assumption)
      · rw [if_pos (by omega)]
        have h1 := hl (by omega)
        by_cases e : a = l.length - 1
        · rw [e]; exact h1
        · have := h.rise a (l.length - 1) (by omega) (by omega)
          omega
    · intro a ha
      rw [List.length_append, List.length_singleton] at ha
      rw [getD_last]
      split
      · exact h.inr a (by assumption)
      · rw [if_pos (by omega)]
        exact hr
    · intro a ha
      rw [List.length_append, List.length_singleton] at ha
      rw [getD_last, getD_last, if_pos (show a < l.length by omega)]
      split
      · exact h.gap a (by assumption)
      · rw [if_pos (by omega)]
        have := hg (by omega)
        rw [show a = l.length - 1 by omega]
        exact this
  · exact h
theorem getD_take {l : List S2} {k a : Nat} (h : a < k) : (l.take k).getD a default = l.getD a default := by
  rw [List.getD_eq_getElem?_getD, List.getElem?_take_of_lt h, List.getD_eq_getElem?_getD]
theorem WF.take {st : Int} {l : List S2} (h : WF st l) (k : Nat) : WF st (l.take k) := by
  refine ⟨h.rise.take k, fun a ha => ?_, fun a ha => ?_⟩
  · rw [List.length_take] at ha
    rw [getD_take (by omega)]
    exact h.inr a (by omega)
  · rw [List.length_take] at ha
    rw [getD_take (by omega), getD_take (by omega)]
    exact h.gap a (by omega)
/-- the next of an index's spots can be added to those ahead of it -/
theorem WF.adds {st : Int} {l : List S2} (h : WF st l) {k : Nat} (hk : k < l.length) : addB st (l.take k) (l.getD k default) = true := by
  have hl : (l.take k).length ≠ 0 → lastS (l.take k) = l.getD (k - 1) default := by
    intro h0
    rw [List.length_take] at h0
    unfold lastS
    rw [List.length_take, show min k l.length = k by omega, getD_take (by omega)]
  refine add_mk (may_mk (h.inr k hk) (fun h0 => ?_)) (fun h0 => ?_)
  · rw [hl h0]
    rw [List.length_take] at h0
    exact h.rise (k - 1) k (by omega) hk
  · rw [hl h0]
    rw [List.length_take] at h0
    have := h.gap (k - 1) (by omega)
    rw [show k - 1 + 1 = k by omega] at this
    exact this

theorem numL_get (x : Nat) {n i : Nat} (h : i < n) : (numL x n).getD i 0 = x / 256 ^ i % 256 := by
  simp [numL, List.getD_eq_getElem?_getD, h]
theorem valF_num {f : Nat → Nat} : ∀ (n o x : Nat), (∀ i, i < n → f (o + i) = x / 256 ^ i % 256) → valF f o n = x % 256 ^ n
  | 0, _, x, _ => by simp [valF, Nat.mod_one]
  | n + 1, o, x, h => by
    have h0 := h 0 (by omega)
    rw [Nat.add_zero, Nat.pow_zero, Nat.div_one] at h0
    have h1 := valF_num (f := f) n (o + 1) (x / 256) (fun i hi => by
      have := h (i + 1) (by omega)
      rw [show o + 1 + i = o + (i + 1) by omega, this, Nat.pow_succ, Nat.mul_comm, Nat.div_div_eq_div_mul])
    simp only [valF]
    rw [h0, h1, Nat.pow_succ, Nat.mul_comm (256 ^ n) 256, Nat.mod_mul]
theorem getD_app {l m : List Nat} (j : Nat) : (l ++ m).getD j 0 = if j < l.length then l.getD j 0 else m.getD (j - l.length) 0 := by
  rw [List.getD_eq_getElem?_getD]
  split
  · rename_i h
    rw [List.getElem?_append_left h, List.getD_eq_getElem?_getD]
  · rename_i h
    rw [List.getElem?_append_right (by omega), List.getD_eq_getElem?_getD]
theorem spotsB_get : ∀ (l : List S2) (k i : Nat), k < l.length → i < 12 → (spotsB l).getD (12 * k + i) 0 = (spotB (l.getD k default)).getD i 0
  | [], k, i, h, _ => by simp at h
  | s :: l, k, i, h, hi => by
    simp only [spotsB]
    rw [getD_app, spotB_length]
    cases k with
    | zero => rw [if_pos (by omega)]; simp
    | succ k =>
      rw [if_neg (by omega), show 12 * (k + 1) + i - 12 = 12 * k + i by omega, spotsB_get l k i (by simpa using h) hi]
      simp
/-- the bytes of an index, as a function -/
def bytF (st : Int) (l : List S2) (j : Nat) : Nat := (bytesL st l).getD j 0
theorem bytesL_lt (st : Int) (l : List S2) : ∀ c ∈ bytesL st l, c < 256 := by
  have h : ∀ (l : List S2), ∀ c ∈ spotsB l, c < 256 := by
    intro l
    induction l with
    | nil => intro c hc; simp [spotsB] at hc
    | cons s l ih =>
      intro c hc
      simp only [spotsB, spotB, List.mem_append] at hc
      rcases hc with (hc | hc) | hc
      · exact numL_lt _ _ c hc
      · exact numL_lt _ _ c hc
      · exact ih c hc
  intro c hc
  unfold bytesL at hc
  simp only [List.mem_append] at hc
  rcases hc with (hc | hc) | hc
  · exact numL_lt _ _ c hc
  · exact numL_lt _ _ c hc
  · exact h l c hc
theorem bytF_lt (st : Int) (l : List S2) (j : Nat) : bytF st l j < 256 := by
  unfold bytF
  rw [List.getD_eq_getElem?_getD]
  cases h : (bytesL st l)[j]? with
  | none => simp
  | some c => exact bytesL_lt st l c (List.mem_of_getElem? h)
theorem bytF_st {st : Int} {l : List S2} (h : 0 ≤ st) (h2 : st ≤ 16777216) : valF (bytF st l) 0 4 = st.toNat := by
  rw [valF_num (x := st.toNat) 4 0 (fun i hi => ?_)]
  · have : (256 : Nat) ^ 4 = 4294967296 := by decide
    omega
  · unfold bytF bytesL
    rw [getD_app, if_pos (by simp; omega), getD_app, if_pos (by simp; omega), Nat.zero_add, numL_get _ hi]
    have e : u64N st = st.toNat := by unfold u64N; omega
    rw [e]
theorem bytF_n {st : Int} {l : List S2} (h : l.length ≤ 8000) : valF (bytF st l) 4 4 = l.length := by
  rw [valF_num (x := l.length) 4 4 (fun i hi => ?_)]
  · have : (256 : Nat) ^ 4 = 4294967296 := by decide
    omega
  · unfold bytF bytesL
    rw [getD_app, if_pos (by simp; omega), getD_app, if_neg (by simp), numL_length, Nat.add_sub_cancel_left, numL_get _ hi]
theorem bytF_spot {st : Int} {l : List S2} (k i : Nat) (hk : k < l.length) (hi : i < 12) : bytF st l (8 + 12 * k + i) = (spotB (l.getD k default)).getD i 0 := by
  unfold bytF bytesL
  rw [getD_app, if_neg (by simp; omega)]
  simp only [List.length_append, numL_length]
  rw [show 8 + 12 * k + i - (4 + 4) = 12 * k + i by omega, spotsB_get l k i hk hi]
theorem spotAt_byt {st : Int} {l : List S2} (h : WF st l) {k : Nat} (hk : k < l.length) : spotAt (bytF st l) k = l.getD k default := by
  have hin := h.inr k hk
  have h0 : ∀ i, i < 8 → bytF st l (8 + 12 * k + i) = (u64N (l.getD k default).o) / 256 ^ i % 256 := fun i hi => by
    rw [bytF_spot k i hk (by omega)]
    unfold spotB
    rw [getD_app, if_pos (by simpa using hi), numL_get _ hi]
  have h1 : ∀ i, i < 4 → bytF st l (8 + 12 * k + 8 + i) = (u64N (l.getD k default).p) / 256 ^ i % 256 := fun i hi => by
    rw [show 8 + 12 * k + 8 + i = 8 + 12 * k + (8 + i) by omega, bytF_spot k (8 + i) hk (by omega)]
    unfold spotB
    rw [getD_app, if_neg (by simp), numL_length, Nat.add_sub_cancel_left, numL_get _ hi]
  unfold spotAt
  rw [valF_num 8 (8 + 12 * k) _ h0, valF_num 4 (8 + 12 * k + 8) _ h1]
  generalize l.getD k default = s at *
  obtain ⟨so, sp⟩ := s
  have e8 : (256 : Nat) ^ 8 = 18446744073709551616 := by decide
  have e4 : (256 : Nat) ^ 4 = 4294967296 := by decide
  rw [e8, e4]
  dsimp only at hin
  have hu : u64N so = so.toNat := by unfold u64N; omega
  have hv : u64N sp = sp.toNat := by unfold u64N; omega
  dsimp only
  rw [hu, hv]
  have a1 : ((min (so.toNat % 18446744073709551616) 4611686018427387904 : Nat) : Int) = so := by omega
  have a2 : ((sp.toNat % 4294967296 : Nat) : Int) = sp := by omega
  rw [a1, a2]
theorem readS_byt {st : Int} {l : List S2} (h : WF st l) : ∀ k, k ≤ l.length → readS (bytF st l) st k = some (l.take k)
  | 0, _ => by simp [readS]
  | k + 1, hk => by
    simp only [readS]
    rw [readS_byt h k (by omega)]
    simp only
    rw [spotAt_byt h (by omega), if_pos (h.adds (by omega)), List.take_add_one, List.getElem?_eq_getElem (by omega)]
    simp [List.getD_eq_getElem?_getD, show k < l.length by omega]
/-- what an index's bytes are read as: the index -/
theorem readF_byt {st : Int} {l : List S2} (h : WF st l) (h1 : 1 ≤ st) (h2 : st ≤ 16777216) (hl : l.length ≤ 8000) : readF (bytF st l) (bytesL st l).length = some (st, l) := by
  unfold readF
  rw [bytesL_length, bytF_st (by omega) h2, bytF_n hl, if_neg (by omega), if_neg (by omega), if_neg (by omega)]
  rw [show ((st.toNat : Nat) : Int) = st by omega, show (8 + l.length * 12 - 8) / 12 = l.length by omega, readS_byt h _ (Nat.le_refl _), List.take_length]
  rfl
end Go.Proofs.Ythbknahmmegcdaa
