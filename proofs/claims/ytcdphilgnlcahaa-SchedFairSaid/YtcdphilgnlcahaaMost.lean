/- Walk of sched.Most: how often anyone was passed over at most. -/
import Derived.Test.YtcdphilgnlcahaaFnext
namespace Go.Proofs.Ytcdphilgnlcahaa
open Go.RowKit

/-- the counts behind i steps -/
def pas (l : Nat → Int) (p : Nat → Nat → Bool) : Nat → Nat → Int
  | 0 => fun _ => 0
  | i + 1 => fairQ (pas l p i) (p i) (l i)
/-- the greatest one, of the first k tasks of a step -/
def mx (q : Nat → Int) (p : Nat → Bool) (t : Int) (m : Int) : Nat → Int
  | 0 => m
  | k + 1 => if p k = true ∧ (k : Int) ≠ t then max (mx q p t m k) (q k + 1) else mx q p t m k
/-- the greatest one behind i steps, of n0 tasks -/
def mostAt (l : Nat → Int) (p : Nat → Nat → Bool) (n0 : Nat) : Nat → Int
  | 0 => 0
  | i + 1 => mx (pas l p i) (p i) (l i) (mostAt l p n0 i) n0
/-- is step i right? -/
def okAt (l : Nat → Int) (L : Nat → Nat) (p : Nat → Nat → Bool) (i : Nat) : Prop := L i = L 0 ∧ 0 ≤ l i ∧ l i < (L 0 : Int) ∧ p i (l i).toNat = true

theorem pas_bd (l : Nat → Int) (p : Nat → Nat → Bool) (i j : Nat) : 0 ≤ pas l p i j ∧ pas l p i j ≤ (i : Int) := by
  induction i generalizing j with
  | zero => simp [pas]
  | succ i ih => have := ih j; unfold pas fairQ; split <;> omega
theorem mx_bd (q : Nat → Int) (p : Nat → Bool) (t m B : Int) (hm : 0 ≤ m ∧ m ≤ B) (hq : ∀ j, 0 ≤ q j ∧ q j + 1 ≤ B) (k : Nat) : 0 ≤ mx q p t m k ∧ mx q p t m k ≤ B := by
  induction k with
  | zero => exact hm
  | succ k ih => have := hq k; unfold mx; split <;> omega
theorem most_bd (l : Nat → Int) (p : Nat → Nat → Bool) (n0 i : Nat) : 0 ≤ mostAt l p n0 i ∧ mostAt l p n0 i ≤ (i : Int) := by
  induction i with
  | zero => simp [mostAt]
  | succ i ih => unfold mostAt; exact mx_bd _ _ _ _ _ (by omega) (fun j => by have := pas_bd l p i j; omega) _

/-- ints in a block of the call's own -/
def OwnInts (w : World) (gb cap n : Nat) (q : Nat → Int) : Prop :=
  ∃ cur, w.heap[gb]? = some (.cells cur 3 (0, 0)) ∧ cur.size = cap ∧ ∀ j, j < n → cur[j]? = some (.int .i64 (q j))
theorem OwnInts.cell {w : World} {gb cap n : Nat} {q : Nat → Int} (h : OwnInts w gb cap n q) (j : Nat) (hj : j < n) : w.cell? ⟨gb, j, none⟩ = some (.int .i64 (q j)) := by
  obtain ⟨cur, hg, _, hc⟩ := h
  simp [World.cell?, hg, hc j hj]
theorem OwnInts.free {w : World} {gb cap n : Nat} {q : Nat → Int} (h : OwnInts w gb cap n q) (j : Nat) : w.frozen? ⟨gb, j, none⟩ = false := by
  obtain ⟨cur, hg, _, hc⟩ := h
  simp [World.frozen?, hg]
theorem OwnInts.same {w w' : World} {gb cap n : Nat} {q : Nat → Int} (h : OwnInts w gb cap n q) (hg : w'.heap[gb]? = w.heap[gb]?) : OwnInts w' gb cap n q := by
  unfold OwnInts; rw [hg]; exact h
theorem OwnInts.lt {w : World} {gb cap n : Nat} {q : Nat → Int} (h : OwnInts w gb cap n q) : gb < w.heap.size := by
  obtain ⟨cur, hg, _⟩ := h; exact (Array.getElem?_eq_some_iff.1 hg).1
theorem OwnInts.set {w : World} {gb cap n : Nat} {q q' : Nat → Int} (h : OwnInts w gb cap n q) (i : Nat) (x : Int) (hi : q' i = x) (ho : ∀ j, j ≠ i → q' j = q j) :
    OwnInts (w.setCell ⟨gb, i, none⟩ (.int .i64 x)) gb cap n q' := by
  obtain ⟨cur, hg, hz, hc⟩ := h
  refine ⟨cur.setIfInBounds i (.int .i64 x), ?_, by simpa using hz, fun j hj => ?_⟩
  · rw [World.setCell]
    simp only [Array.getElem?_modify, if_true, hg]
    simp
  · by_cases e : j = i
    · subst e
      have h1 := hc j hj
      have h2 := (Array.getElem?_eq_some_iff.1 h1).1
      simp [hi, h2]
    · rw [Array.getElem?_setIfInBounds_ne (by omega), hc j hj, ho j e]
theorem OwnInts.congr {w : World} {gb cap n : Nat} {q q' : Nat → Int} (h : OwnInts w gb cap n q) (e : ∀ j, j < n → q' j = q j) : OwnInts w gb cap n q' := by
  obtain ⟨cur, hg, hz, hc⟩ := h
  exact ⟨cur, hg, hz, fun j hj => by rw [hc j hj, e j hj]⟩

/-- a list of lists of truths -/
structure RowsAt (w : World) (a : Option Addr) (n : Nat) (A : Nat → Option Addr) (L C : Nat → Nat) (p : Nat → Nat → Bool) : Prop where
  at_ : ∀ i, i < n → ∃ b off, a = some ⟨b, off, none⟩ ∧ w.cell? ⟨b, off + i, none⟩ = some (.slice (A i) (L i) (C i))
  can : ∀ i, i < n → Bools w (A i) (L i) (p i)
theorem RowsAt.below {w w' : World} {a : Option Addr} {n : Nat} {A : Nat → Option Addr} {L C : Nat → Nat} {p : Nat → Nat → Bool} {B : Nat} (h : RowsAt w a n A L C p) (hb : Below B w w') (hB : w.heap.size ≤ B) : RowsAt w' a n A L C p := by
  refine ⟨fun i hi => ?_, fun i hi => ?_⟩
  · obtain ⟨b, off, rfl, h1⟩ := h.at_ i hi
    exact ⟨b, off, rfl, (hb.cell (Nat.lt_of_lt_of_le (World.block_lt_of_cell? w _ h1) hB)).trans h1⟩
  · intro j hj
    obtain ⟨b, off, e, h1⟩ := h.can i hi j hj
    exact ⟨b, off, e, (hb.cell (Nat.lt_of_lt_of_le (World.block_lt_of_cell? w _ h1) hB)).trans h1⟩
theorem Ints.belowB {w w' : World} {a : Option Addr} {n B : Nat} {p : Nat → Int} (h : Ints w a n p) (hb : Below B w w') (hB : w.heap.size ≤ B) : Ints w' a n p := by
  intro j hj
  obtain ⟨b, off, rfl, hc⟩ := h j hj
  exact ⟨b, off, rfl, (hb.cell (Nat.lt_of_lt_of_le (World.block_lt_of_cell? w _ hc) hB)).trans hc⟩

theorem Most_bad (a b : Option Addr) (n m c c' : Nat) (w : World) (h : n ≠ m) :
    Calls Try.prog 20 #[.slice a n c, .slice b m c'] w fun e w' => e = .returned (.tuple #[.int .i64 0, .int .i64 2]) ∧ w = w' := by
  have hb : ((n : Int) != (m : Int)) = true := by simp; omega
  go_enter Try.func20, Try.ntmps20
  go_wp2
  go_step3
  go_wp2
  try rw [Exit.noGoto_ret]
  go_ret2
  exact ⟨rfl, rfl⟩
theorem Most_none (a b : Option Addr) (c c' : Nat) (w : World) :
    Calls Try.prog 20 #[.slice a 0 c, .slice b 0 c'] w fun e w' => e = .returned (.tuple #[.int .i64 0, .int .i64 0]) ∧ w = w' := by
  go_enter Try.func20, Try.ntmps20
  go_wp2
  go_step3
  go_wp2
  try rw [Exit.noGoto_ret]
  go_ret2
  exact ⟨rfl, rfl⟩

set_option maxHeartbeats 1600000 in
set_option maxRecDepth 100000 in
theorem Most_ok (a b : Option Addr) (n c c' : Nat) (l : Nat → Int) (A : Nat → Option Addr) (L C : Nat → Nat) (p : Nat → Nat → Bool) (w : World) (h1 : 1 ≤ n) (h2 : n ≤ 100000) (hL : L 0 ≤ 2000000)
    (hl : Ints w a n l) (hr : RowsAt w b n A L C p) :
    Calls Try.prog 20 #[.slice a n c, .slice b n c'] w fun e w' =>
      ((∀ i, i < n → okAt l L p i) → e = .returned (.tuple #[.int .i64 (mostAt l p (L 0) n), .int .i64 0])) ∧ (¬ (∀ i, i < n → okAt l L p i) → e = .returned (.tuple #[.int .i64 0, .int .i64 2])) ∧ Below w.heap.size w w' := by
  obtain ⟨i0, hi, hz0, hz1, hz2⟩ := info_parts Try.info3
  obtain ⟨b0, off0, rfl, hc0⟩ := hr.at_ 0 (by omega)
  rw [Nat.add_zero] at hc0
  have hnn : ((n : Int) != (n : Int)) = false := by simp
  have hn0 : ((n : Int) == 0) = false := by simp; omega
  go_enter Try.func20, Try.ntmps20
  go_wp2_with fail
  go_step3
  go_wp2_with (at_make; refine wpList_make_full _ rfl _ _ 37 rfl w.heap.size 3 i0 (.int .i64 0) 1 Try.underlying37 hi hz0 hz1 .i64 .i64 _ _ (L 0) rfl rfl rfl rfl (by rw [hz2]; omega) (by unfold maxLen; omega) (Nat.le_refl _) ?_; intro w0 hown0 hgrow0; rw [made_zero] at hown0)
  have hB0 : Below w.heap.size w w0 := (Below.refl _ _).grown hgrow0 (Nat.le_refl _) (by simp)
  have hO0 : OwnInts w0 w.heap.size (L 0) (L 0) (fun _ => 0) := by
    rcases hown0.2 with ⟨h, _⟩ | ⟨g, cap, cur, hv, h1, h2, h3, h4, h5, h6⟩
    · cases h
    · simp only [Value.slice.injEq, Option.some.injEq, Addr.mk.injEq] at hv
      obtain ⟨⟨rfl, _⟩, _, rfl⟩ := hv
      refine ⟨cur, h2, by omega, fun j hj => ?_⟩
      have := vals_get (fun _ => 0) (L 0) j hj
      rw [← h6, List.getElem?_take] at this
      simpa [hj] using this
  clear hown0 hgrow0
  go_step3
  go_wp2_with fail
  go_loopw [7, 26] (fun m i wr => ∃ i' : Nat, i' ≤ n ∧ i = .int .i64 i' ∧ m = .int .i64 (mostAt l p (L 0) i') ∧ OwnInts wr w.heap.size (L 0) (L 0) (pas l p i') ∧ Below w.heap.size w wr ∧ Hid (∀ x, x < i' → okAt l L p x)) (fun _ i _ => n - (intOf i).toNat)
  case atStart => exact ⟨0, Nat.zero_le _, rfl, rfl, hO0, hB0, hide (fun x hx => by omega)⟩
  case round =>
    clear hO0 hB0
    obtain ⟨i, hin, rfl, rfl, hO, hB, hok⟩ := hrel
    by_cases hlt : i < n
    · obtain ⟨bl, ol, rfl, hcl0⟩ := hl i hlt
      obtain ⟨br, orr, hebr, hcr0⟩ := hr.at_ i hlt
      injection hebr with hebr
      injection hebr with hb1 hb2
      subst hb1 hb2
      have hcl := (hB.cell (World.block_lt_of_cell? w _ hcl0)).trans hcl0
      have hcr := (hB.cell (World.block_lt_of_cell? w _ hcr0)).trans hcr0
      have hbw : Bools wr (A i) (L i) (p i) := fun j hj => by
        obtain ⟨b, off, e, h⟩ := hr.can i hlt j hj
        exact ⟨b, off, e, (hB.cell (World.block_lt_of_cell? w _ h)).trans h⟩
      have hbold : ∀ b off, A i = some ⟨b, off, none⟩ → L i = 0 ∨ b < w.heap.size := fun b off e => by
        by_cases hz : L i = 0
        · exact .inl hz
        · obtain ⟨b', off', e', h⟩ := hr.can i hlt 0 (by omega)
          rw [e] at e'
          injection e' with e'
          injection e' with e1 e2
          subst e1
          exact .inr (World.block_lt_of_cell? w _ h)
      have hmb := most_bd l p (L 0) i
      have hnx : Hid (mostAt l p (L 0) (i + 1) = mx (pas l p i) (p i) (l i) (mostAt l p (L 0) i) (L 0) ∧ pas l p (i + 1) = fairQ (pas l p i) (p i) (l i)) := hide ⟨rfl, rfl⟩
      clear hcl0 hcr0
      by_cases hLi : L i = L 0
      · have hb1 : ((L i : Int) != (L 0 : Int)) = false := by simp [hLi]
        by_cases ht0 : l i < 0
        · clear hl hbold hbw hnx
          go_wp2
          try rw [Exit.noGoto_ret]
          go_ret2
          exact ⟨fun h => absurd (h i hlt) (by unfold okAt; omega), fun _ => rfl, hB⟩
        · obtain ⟨t, ht⟩ := Int.eq_ofNat_of_zero_le (show 0 ≤ l i by omega)
          rw [ht] at hcl
          by_cases htL : t < L 0
          · obtain ⟨bt, ot, hAi, hct⟩ := hbw t (by omega)
            cases hp : p i t with
            | false =>
              rw [hp] at hct
              rw [hAi] at hcr
              clear hl hbold hbw hnx
              go_wp2
              try rw [Exit.noGoto_ret]
              go_ret2
              exact ⟨fun h => absurd (h i hlt) (by unfold okAt; rw [ht, Int.toNat_natCast, hp]; simp), fun _ => rfl, hB⟩
            | true =>
              rw [hp] at hct
              rw [hAi] at hcr
              rw [hAi] at hbw hbold
              have hoks : Hid (∀ x, x < i + 1 → okAt l L p x) := hide (fun x hx => by
                by_cases e : x = i
                · subst e; exact ⟨hLi, by omega, by omega, by rw [ht, Int.toNat_natCast]; exact hp⟩
                · exact hok.out x (by omega))
              have HAi := hide hAi
              have HLi := hide hLi
              have Hp := hide hp
              have Ht := hide ht
              have hbl : bt < w.heap.size := by
                rcases hbold bt ot rfl with h | h
                · omega
                · exact h
              rw [hLi] at hbw
              have htl : (t : Int) < (L 0 : Int) := by omega
              have htt : t < L i := by omega
              clear hAi hLi hp hbold hl
              go_wp2_with fail
              go_loopw [7, 61] (fun m k wr => ∃ k' : Nat, k' ≤ L 0 ∧ k = .int .i64 k' ∧ m = .int .i64 (mx (pas l p i) (p i) (l i) (mostAt l p (L 0) i) k') ∧ OwnInts wr w.heap.size (L 0) (L 0) (fun x => if x < k' then fairQ (pas l p i) (p i) (l i) x else pas l p i x) ∧ Below w.heap.size w wr ∧ Bools wr (some ⟨bt, ot, none⟩) (L 0) (p i) ∧ wr.cell? ⟨b0, off0 + i, none⟩ = some (.slice (some ⟨bt, ot, none⟩) (L i) (C i))) (fun _ k _ => L 0 - (intOf k).toNat)
              case atStart => exact ⟨0, Nat.zero_le _, rfl, rfl, hO.congr (fun j hj => by simp), hB, hbw, hcr⟩
              case round =>
                clear hO hB hbw hcr hct
                obtain ⟨k, hk, rfl, rfl, hO, hB, hbw, hcr⟩ := hrel
                by_cases hkl : k < L 0
                · obtain ⟨b', o', e', hck⟩ := hbw k hkl
                  injection e' with e'
                  injection e' with e1 e2
                  subst e1 e2
                  have hcq : wr.cell? ⟨w.heap.size, k, none⟩ = some (.int .i64 (pas l p i k)) := by have := hO.cell k hkl; simpa using this
                  have hfz := hO.free k
                  have hpb := pas_bd l p i k
                  have hki : k < L i := by have := HLi.out; omega
                  have hmx := mx_bd (pas l p i) (p i) (l i) (mostAt l p (L 0) i) (i + 1) (by omega) (fun j => by have := pas_bd l p i j; omega) k
                  have hms : Hid (mx (pas l p i) (p i) (l i) (mostAt l p (L 0) i) (k + 1) = if p i k = true ∧ (k : Int) ≠ l i then max (mx (pas l p i) (p i) (l i) (mostAt l p (L 0) i) k) (pas l p i k + 1) else mx (pas l p i) (p i) (l i) (mostAt l p (L 0) i) k) := hide rfl
                  have hOs : ∀ u, fairQ (pas l p i) (p i) (l i) k = u → OwnInts (wr.setCell ⟨w.heap.size, k, none⟩ (.int .i64 u)) w.heap.size (L 0) (L 0) (fun x => if x < k + 1 then fairQ (pas l p i) (p i) (l i) x else pas l p i x) := fun u hu =>
                    hO.set k u (by simp [hu]) (fun x hx => by by_cases e : x < k <;> simp [e, show (x < k + 1) = (x < k) by simp; omega])
                  have hBs : Hid (∀ u, Below w.heap.size w (wr.setCell ⟨w.heap.size, k, none⟩ u)) := hide (fun u => hB.setCell (by simp) _)
                  have hbs : Hid (∀ u, Bools (wr.setCell ⟨w.heap.size, k, none⟩ u) (some ⟨bt, ot, none⟩) (L 0) (p i)) := hide (fun u j hj => by
                    obtain ⟨b2, o2, e2, h2⟩ := hbw j hj
                    injection e2 with e2
                    injection e2 with e3 e4
                    subst e3 e4
                    exact ⟨_, _, rfl, (World.cell?_setCell_other _ _ _ _ (by intro e; injection e with e; omega)).trans h2⟩)
                  have hb0 : b0 < w.heap.size := World.block_lt_of_cell? w _ hc0
                  have hcs : Hid (∀ u, (wr.setCell ⟨w.heap.size, k, none⟩ u).cell? ⟨b0, off0 + i, none⟩ = some (.slice (some ⟨bt, ot, none⟩) (L i) (C i))) := hide (fun u => (World.cell?_setCell_other _ _ _ _ (by intro e; injection e with e; omega)).trans hcr)
                  generalize mx (pas l p i) (p i) (l i) (mostAt l p (L 0) i) k = M at *
                  clear hO hB hbw
                  cases hpk : p i k with
                  | false =>
                    rw [hpk] at hck
                    have hu : fairQ (pas l p i) (p i) (l i) k = 0 := by simp [fairQ, hpk]
                    have HF := hide (hOs 0 hu)
                    have HM := hide (hms.out.trans (if_neg (by simp [hpk])))
                    clear hOs hu hpk
                    go_wp2
                    go_roundw
                    case rel => exact ⟨k + 1, by omega, by go_num, by rw [HM.out], HF.out, hBs.out _, hbs.out _, hcs.out _⟩
                    case measure => simp [intOf]; omega
                  | true =>
                    rw [hpk] at hck
                    by_cases hkt : k = t
                    · have hb2 : ((k : Int) == (t : Int)) = true := by simp [hkt]
                      have hu : fairQ (pas l p i) (p i) (l i) k = 0 := by simp [fairQ, Ht.out, hkt]
                      have HF := hide (hOs 0 hu)
                      have HM := hide (hms.out.trans (if_neg (by simp [Ht.out, hkt])))
                      have HKT := hide hkt
                      clear hOs hu hpk hkt
                      go_wp2
                      go_roundw
                      case rel => exact ⟨k + 1, by omega, by go_num, by rw [HM.out], HF.out, hBs.out _, hbs.out _, hcs.out _⟩
                      case measure => simp [intOf]; omega
                    · have hb2 : ((k : Int) == (t : Int)) = false := by simp; omega
                      have hu : fairQ (pas l p i) (p i) (l i) k = pas l p i k + 1 := by unfold fairQ; rw [if_pos ⟨hpk, by rw [Ht.out]; omega⟩]
                      have HF := hide (hOs _ hu)
                      have HM := hide (hms.out.trans (if_pos ⟨hpk, by rw [Ht.out]; omega⟩))
                      clear hOs hu hpk
                      go_wp2
                      go_roundw
                      case rel => exact ⟨k + 1, by omega, by go_num, by rw [HM.out]; congr 1; split <;> omega, HF.out, hBs.out _, hbs.out _, hcs.out _⟩
                      case measure => simp [intOf]; omega
                · have hkL : k = L 0 := by omega
                  have hOe : Hid (OwnInts wr w.heap.size (L 0) (L 0) (pas l p (i + 1))) := hide (by rw [hnx.out.2]; exact hO.congr (fun j hj => (if_pos (show j < k by omega)).symm))
                  have HM : Hid (mx (pas l p i) (p i) (l i) (mostAt l p (L 0) i) k = mostAt l p (L 0) (i + 1)) := hide (by rw [hnx.out.1, hkL])
                  generalize mx (pas l p i) (p i) (l i) (mostAt l p (L 0) i) k = M at *
                  have HKL := hide hkL
                  clear hO hkL hbw
                  go_wp2
                  go_roundw
                  case rel => exact ⟨i + 1, by omega, by go_num, by rw [HM.out], hOe.out, hB, hoks⟩
                  case measure => simp [intOf]; omega
          · clear hl hbold hbw hnx
            go_wp2
            try rw [Exit.noGoto_ret]
            go_ret2
            exact ⟨fun h => absurd (h i hlt) (by unfold okAt; omega), fun _ => rfl, hB⟩
      · have hb1 : ((L i : Int) != (L 0 : Int)) = true := by simp; omega
        clear hl hbold hbw hnx
        go_wp2
        try rw [Exit.noGoto_ret]
        go_ret2
        exact ⟨fun h => absurd (h i hlt) (by unfold okAt; omega), fun _ => rfl, hB⟩
    · have hjn : i = n := by omega
      subst hjn
      have hmb := most_bd l p (L 0) i
      go_wp2
      try rw [Exit.noGoto_ret]
      go_ret2
      exact ⟨fun _ => rfl, fun h => absurd hok.out h, hB⟩
end Go.Proofs.Ytcdphilgnlcahaa
