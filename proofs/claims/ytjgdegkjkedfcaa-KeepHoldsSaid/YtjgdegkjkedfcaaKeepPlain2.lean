/- Plain laws of keep: when more go. -/
import Derived.Test.YtjgdegkjkedfcaaKeepPlain
namespace Go.Proofs.Ytjgdegkjkedfcaa

/-- the reason, by what time it is: 4 and 5 stay so; nought becomes 2 when it is too old -/
theorem rsn_time (r : R4) (now t : Int) (p : P3) (rest : List P3) (h : goesB (rsn r now p rest) = false) :
    (rsn r now p rest ≠ 0 ∧ rsn r t p rest = rsn r now p rest) ∨ (rsn r now p rest = 0 ∧ ¬ (0 < r.a ∧ r.a < now - p.t) ∧ rsn r t p rest = if 0 < r.a ∧ r.a < t - p.t then 2 else 0) := by
  cases rest with
  | nil => exact .inl ⟨by simp [rsn], rfl⟩
  | cons q rest =>
    simp only [rsn] at h ⊢
    by_cases c0 : r.w < q.b
    · simp only [if_pos c0]; exact .inl ⟨by omega, trivial⟩
    · simp only [if_neg c0] at h ⊢
      by_cases c1 : 0 < r.y ∧ r.y ≤ bytesS (q :: rest)
      · rw [if_pos c1] at h; cases h
      · simp only [if_neg c1] at h ⊢
        by_cases c2 : 0 < r.a ∧ r.a < now - p.t
        · rw [if_pos c2] at h; cases h
        · simp only [if_neg c2] at h ⊢
          by_cases c3 : 0 < r.p ∧ r.p ≤ ((q :: rest).length : Int)
          · rw [if_pos c3] at h; cases h
          · simp only [if_neg c3] at h ⊢
            exact .inr ⟨trivial, c2, trivial⟩
theorem getD_out (ls : List Int) (n : Nat) (h : ls.length ≤ n) : ls.getD n 0 = 0 := by
  rw [List.getD_eq_getElem?_getD, List.getElem?_eq_none h]; rfl
theorem mem_getD (l : List P3) (k : Nat) (h : k < l.length) : l.getD k default ∈ l := by simp [List.getD_eq_getElem?_getD, h]
/-- where no more go it stays so -/
theorem next_no {r : R4} {now later : Int} {l : List P3} (h0 : mayE r now l = 0) (hb : nextB r now l = false) (hl : now ≤ later) (hle : later ≤ 9007199254740992) : cntL (alsL r later l) = cntL (alsL r now l) := by
  obtain ⟨m1, m2, m3, m4⟩ := mayE_ok h0
  have hpb := ordFrom_b m4
  have h1 := cnt_mono (Less.refl r) hl l
  have h2 : cntL (alsL r later l) ≤ cntL (alsL r now l) := by
    apply cnt_le_of
    by_cases hn : cntL (alsL r now l) < l.length
    · have hat := cnt_at (alsL r now l)
      rw [alsL_getD _ _ _ _ hn] at hat ⊢
      rcases rsn_time r now later _ _ hat with ⟨_, e⟩ | ⟨e0, hag, e⟩
      · rw [e]; exact hat
      · rw [e]
        have hp := hpb _ (mem_getD l _ hn)
        by_cases c : 0 < r.a ∧ r.a < later - (l.getD (cntL (alsL r now l)) default).t
        · exfalso
          have hyes := nextB_yes (r := r) (now := now) (l := l) h0 (by omega) (by rw [alsL_getD _ _ _ _ hn]; exact e0) (by omega) (by omega)
          rw [hb] at hyes
          exact absurd hyes.1 (by simp)
        · rw [if_neg c]; rfl
    · rw [getD_out _ _ (by rw [alsL_length]; omega)]; rfl
  omega
/-- the time that is told -/
theorem next_yes {r : R4} {now : Int} {l : List P3} (h0 : mayE r now l = 0) (hb : nextB r now l = true) :
    now < nextT r now l ∧ 1 ≤ nextT r now l ∧ nextT r now l ≤ 9007199254740992 ∧ cntL (alsL r now l) < cntL (alsL r (nextT r now l) l) ∧ cntL (alsL r (nextT r now l - 1) l) = cntL (alsL r now l) := by
  obtain ⟨m1, m2, m3, m4⟩ := mayE_ok h0
  have hpb := ordFrom_b m4
  have ha : 0 ≤ r.a := by
    unfold chkB at m1
    simp only [Bool.and_eq_true, inB_iff] at m1
    exact m1.2.1.1
  have hT : nextT r now l = (l.getD (cntL (alsL r now l)) default).t + r.a + 1 := by unfold nextT; rw [hb]; rfl
  unfold nextB at hb
  simp only [Bool.and_eq_true, decide_eq_true_eq] at hb
  obtain ⟨_, hne, hx, ha0, hbig⟩ := hb
  have hle := cntL_le (alsL r now l)
  rw [alsL_length] at hle
  have hn : cntL (alsL r now l) < l.length := by omega
  have hp := hpb _ (mem_getD l _ hn)
  have hat := cnt_at (alsL r now l)
  rw [alsL_getD _ _ _ _ hn] at hat hx
  rw [hT]
  generalize hpc : l.getD (cntL (alsL r now l)) default = p at *
  have key : ∀ t, (rsn r t p (l.drop (cntL (alsL r now l) + 1)) = if 0 < r.a ∧ r.a < t - p.t then 2 else 0) ∧ ¬ (0 < r.a ∧ r.a < now - p.t) := fun t => by
    rcases rsn_time r now t _ _ hat with ⟨e, _⟩ | ⟨_, e1, e2⟩
    · exact absurd hx e
    · exact ⟨e2, e1⟩
  have hnow := (key now).2
  have h1 : now < p.t + r.a + 1 := by omega
  refine ⟨h1, by omega, hbig, ?_, ?_⟩
  · apply cnt_ge
    intro i hi
    by_cases e : i = cntL (alsL r now l)
    · rw [e, alsL_getD _ _ _ _ hn, hpc, (key _).1, if_pos (by omega)]; rfl
    · have hi' : i < cntL (alsL r now l) := by omega
      have hg := cnt_lt _ _ hi'
      rw [alsL_getD _ _ _ _ (by omega)] at hg ⊢
      exact rsn_mono (Less.refl r) (by omega) _ _ hg
  · have h2 := cnt_mono (Less.refl r) (show now ≤ p.t + r.a + 1 - 1 by omega) l
    have h3 : cntL (alsL r (p.t + r.a + 1 - 1) l) ≤ cntL (alsL r now l) := by
      apply cnt_le_of
      rw [alsL_getD _ _ _ _ hn, hpc, (key _).1, if_neg (by omega)]; rfl
    omega
/-- what stands behind those that go is not above Below -/
theorem base_below {r : R4} {now : Int} {l : List P3} (h : 0 < cntL (alsL r now l)) : (l.getD (cntL (alsL r now l)) default).b ≤ r.w ∧ cntL (alsL r now l) < l.length := by
  have hle := cntL_le (alsL r now l)
  rw [alsL_length] at hle
  have hg := cnt_lt (alsL r now l) (cntL (alsL r now l) - 1) (by omega)
  rw [alsL_getD _ _ _ _ (by omega)] at hg
  have hlen := cnt_lt_len r now l (by omega)
  have e : cntL (alsL r now l) - 1 + 1 = cntL (alsL r now l) := by omega
  rw [rsn_more _ _ _ _ _ (by omega), e] at hg
  by_cases c : r.w < (l.getD (cntL (alsL r now l)) default).b
  · rw [if_pos c] at hg; cases hg
  · exact ⟨by omega, hlen⟩
theorem ordFrom_drop {last : Int} {l : List P3} (h : ordFrom last l = true) (n : Nat) : ∃ last', ordFrom last' (l.drop n) = true ∧ (-1 ≤ last → -1 ≤ last') := by
  induction n generalizing last l with
  | zero => exact ⟨last, h, fun h => h⟩
  | succ n ih => cases l with
    | nil => exact ⟨last, rfl, fun h => h⟩
    | cons p l =>
      simp only [ordFrom, Bool.and_eq_true] at h
      obtain ⟨last', h1, h2⟩ := ih h.2
      refine ⟨last', h1, fun _ => h2 ?_⟩
      have := h.1
      simp only [okP, Bool.and_eq_true, inB_iff] at this
      omega
theorem ordFrom_weak {last last' : Int} {l : List P3} (h : ordFrom last l = true) (hl : last' ≤ last) : ordFrom last' l = true := by
  cases l with
  | nil => rfl
  | cons p l =>
    simp only [ordFrom, okP, Bool.and_eq_true, Bool.not_eq_true', decide_eq_false_iff_not] at h ⊢
    exact ⟨⟨by omega, h.1.2⟩, h.2⟩
/-- of those behind none goes -/
theorem goes_behind {r : R4} {now : Int} {l : List P3} (h0 : mayE r now l = 0) : mayE r now (l.drop (cntL (alsL r now l))) = 0 ∧ goesN r now (l.drop (cntL (alsL r now l))) = 0 := by
  obtain ⟨m1, m2, m3, m4⟩ := mayE_ok h0
  obtain ⟨last', h1, h2⟩ := ordFrom_drop m4 (cntL (alsL r now l))
  have hm : mayE r now (l.drop (cntL (alsL r now l))) = 0 := by
    unfold mayE
    rw [m1, m2]
    show ordE _ = 0
    unfold ordE
    rw [if_neg (by rw [List.length_drop]; omega), ordFrom_weak h1 (h2 (by omega))]
    rfl
  refine ⟨hm, ?_⟩
  unfold goesN
  rw [if_pos hm, alsL_drop, cnt_drop]
  rfl
end Go.Proofs.Ytjgdegkjkedfcaa
