/- Walk of the reference's Most. -/
import Derived.Test.YtcdphilgnlcahaaMost
namespace Go.Proofs.Ytcdphilgnlcahaa
open Go.RowKit

theorem refMost_bad (a b : Option Addr) (n m c c' : Nat) (w : World) (h : n ≠ m) :
    Calls Try.prog 21 #[.slice a n c, .slice b m c'] w fun e w' => e = .returned (.tuple #[.int .i64 0, .int .i64 2]) ∧ w = w' := by
  have hb : ((n : Int) != (m : Int)) = true := by simp; omega
  go_enter Try.func21, Try.ntmps21
  go_wp2
  go_ret2
  exact ⟨rfl, rfl⟩
theorem refMost_none (a b : Option Addr) (c c' : Nat) (w : World) :
    Calls Try.prog 21 #[.slice a 0 c, .slice b 0 c'] w fun e w' => e = .returned (.tuple #[.int .i64 0, .int .i64 0]) ∧ w = w' := by
  go_enter Try.func21, Try.ntmps21
  go_wp2
  refine wp_loop_rounds 1 ?_
  rw [rounds_succ]
  go_wp2
  go_ret2
  exact ⟨rfl, rfl⟩

set_option maxHeartbeats 1600000 in
set_option maxRecDepth 100000 in
theorem refMost_ok (a b : Option Addr) (n c c' : Nat) (l : Nat → Int) (A : Nat → Option Addr) (L C : Nat → Nat) (p : Nat → Nat → Bool) (w : World) (h1 : 1 ≤ n) (h2 : n ≤ 100000) (hL : L 0 ≤ 2000000)
    (hl : Ints w a n l) (hr : RowsAt w b n A L C p) :
    Calls Try.prog 21 #[.slice a n c, .slice b n c'] w fun e w' =>
      ((∀ i, i < n → okAt l L p i) → e = .returned (.tuple #[.int .i64 (mostAt l p (L 0) n), .int .i64 0])) ∧ (¬ (∀ i, i < n → okAt l L p i) → e = .returned (.tuple #[.int .i64 0, .int .i64 2])) ∧ Below w.heap.size w w' := by
  obtain ⟨i0, hi, hz0, hz1, hz2⟩ := info_parts Try.info3
  obtain ⟨b0, off0, rfl, hc0⟩ := hr.at_ 0 (by omega)
  rw [Nat.add_zero] at hc0
  have hnn : ((n : Int) != (n : Int)) = false := by simp
  have hn0 : ((n : Int) == 0) = false := by simp; omega
  go_enter Try.func21, Try.ntmps21
  go_wp2_with (at_make; refine wpList_make_full _ rfl _ _ 37 rfl w.heap.size 3 i0 (.int .i64 0) 1 Try.underlying37 hi hz0 hz1 .i64 .i64 _ _ (L 0) rfl rfl rfl rfl (by rw [hz2]; omega) (by unfold maxLen; omega) (Nat.le_refl _) ?_; intro w0 hown0 hgrow0; rw [made_zero] at hown0)
  have hB0 : Below w.heap.size w w0 := (Below.refl _ _).grown hgrow0 (Nat.le_refl _) (by simp)
  have hO0 : OwnInts w0 w.heap.size (L 0) (L 0) (fun _ => 0) := by
    rcases hown0.2 with ⟨h, _⟩ | ⟨g, cap, cur, hv, h1, h2, h3, h4, h5, h6⟩
    · cases h
    · simp only [Value.slice.injEq, Option.some.injEq, Addr.mk.injEq] at hv
      obtain ⟨⟨rfl, _⟩, _, rfl⟩ := hv
      refine ⟨cur, h2, by omega, fun j hj => ?_⟩
      have := vals_get (fun _ => 0) (L 0) j hj
      rw [← h6, List.getElem?_take] at this
      simpa [hj] using this
  clear hown0 hgrow0
  go_wp2_with fail
  go_loopw [6, 8] (fun m i wr => ∃ i' : Nat, i' ≤ n ∧ i = .int .i64 i' ∧ m = .int .i64 (mostAt l p (L 0) i') ∧ OwnInts wr w.heap.size (L 0) (L 0) (pas l p i') ∧ Below w.heap.size w wr ∧ Hid (∀ x, x < i' → okAt l L p x)) (fun _ i _ => n - (intOf i).toNat)
  case atStart => exact ⟨0, Nat.zero_le _, rfl, rfl, hO0, hB0, hide (fun x hx => by omega)⟩
  case round =>
    clear hO0 hB0
    obtain ⟨i, hin, rfl, rfl, hO, hB, hok⟩ := hrel
    by_cases hlt : i < n
    · obtain ⟨bl, ol, rfl, hcl0⟩ := hl i hlt
      obtain ⟨br, orr, hebr, hcr0⟩ := hr.at_ i hlt
      injection hebr with hebr
      injection hebr with hb1 hb2
      subst hb1 hb2
      have hcl := (hB.cell (World.block_lt_of_cell? w _ hcl0)).trans hcl0
      have hcr := (hB.cell (World.block_lt_of_cell? w _ hcr0)).trans hcr0
      have hbw : Bools wr (A i) (L i) (p i) := fun j hj => by
        obtain ⟨b, off, e, h⟩ := hr.can i hlt j hj
        exact ⟨b, off, e, (hB.cell (World.block_lt_of_cell? w _ h)).trans h⟩
      have hbold : ∀ b off, A i = some ⟨b, off, none⟩ → L i = 0 ∨ b < w.heap.size := fun b off e => by
        by_cases hz : L i = 0
        · exact .inl hz
        · obtain ⟨b', off', e', h⟩ := hr.can i hlt 0 (by omega)
          rw [e] at e'
          injection e' with e'
          injection e' with e1 e2
          subst e1
          exact .inr (World.block_lt_of_cell? w _ h)
      have hmb := most_bd l p (L 0) i
      have hnx : Hid (mostAt l p (L 0) (i + 1) = mx (pas l p i) (p i) (l i) (mostAt l p (L 0) i) (L 0) ∧ pas l p (i + 1) = fairQ (pas l p i) (p i) (l i)) := hide ⟨rfl, rfl⟩
      have hblo : bl < w.heap.size := World.block_lt_of_cell? w _ hcl0
      clear hcl0 hcr0
      by_cases hLi : L i = L 0
      · have hb1 : ((L i : Int) != (L 0 : Int)) = false := by simp [hLi]
        by_cases ht0 : l i < 0
        · have hd1 : decide (l i < 0) = true := by simpa using ht0
          clear hl hbold hbw hnx
          go_wp2_with fail
          go_quiet (fail)
          go_wp2
          go_ret2
          exact ⟨fun h => absurd (h i hlt) (by unfold okAt; omega), fun _ => rfl, belowDrewN hB _⟩
        · obtain ⟨t, ht⟩ := Int.eq_ofNat_of_zero_le (show 0 ≤ l i by omega)
          rw [ht] at hcl
          have hd1 : decide ((t : Int) < 0) = false := by simp
          by_cases htL : t < L 0
          · have hd2 : decide ((L 0 : Int) ≤ (t : Int)) = false := by simp; omega
            have hd3 : decide (L 0 ≤ t) = false := by simp; omega
            have htt : t < L i := by omega
            obtain ⟨bt, ot, hAi, hct⟩ := hbw t (by omega)
            cases hp : p i t with
            | false =>
              rw [hp] at hct
              rw [hAi] at hcr
              clear hl hbold hbw hnx
              go_wp2_with fail
              go_quiet (fail)
              go_wp2
              go_ret2
              exact ⟨fun h => absurd (h i hlt) (by unfold okAt; rw [ht, Int.toNat_natCast, hp]; simp), fun _ => rfl, belowDrewN hB _⟩
            | true =>
              rw [hp] at hct
              rw [hAi] at hcr
              rw [hAi] at hbw hbold
              have hoks : Hid (∀ x, x < i + 1 → okAt l L p x) := hide (fun x hx => by
                by_cases e : x = i
                · subst e; exact ⟨hLi, by omega, by omega, by rw [ht, Int.toNat_natCast]; exact hp⟩
                · exact hok.out x (by omega))
              have HAi := hide hAi
              have HLi := hide hLi
              have Hp := hide hp
              have Ht := hide ht
              have hbl : bt < w.heap.size := by
                rcases hbold bt ot rfl with h | h
                · omega
                · exact h
              rw [hLi] at hbw
              have htl : (t : Int) < (L 0 : Int) := by omega
              clear hAi hLi hp hbold hl
              go_wp2_with fail
              go_quiet (fail)
              go_wp2_with fail
              go_loopw [6, 9] (fun m k wr => ∃ k' : Nat, k' ≤ L 0 ∧ k = .int .i64 k' ∧ m = .int .i64 (mx (pas l p i) (p i) (l i) (mostAt l p (L 0) i) k') ∧ OwnInts wr w.heap.size (L 0) (L 0) (fun x => if x < k' then fairQ (pas l p i) (p i) (l i) x else pas l p i x) ∧ Below w.heap.size w wr ∧ Bools wr (some ⟨bt, ot, none⟩) (L 0) (p i) ∧ wr.cell? ⟨b0, off0 + i, none⟩ = some (.slice (some ⟨bt, ot, none⟩) (L i) (C i)) ∧ wr.cell? ⟨bl, ol + i, none⟩ = some (.int .i64 t)) (fun _ k _ => L 0 - (intOf k).toNat)
              case atStart => exact ⟨0, Nat.zero_le _, rfl, rfl, (hO.congr (fun j hj => by simp)).same rfl, belowDrewN hB _, hbw, hcr, hcl⟩
              case round =>
                clear hO hB hbw hcr hct hcl
                obtain ⟨k, hk, rfl, rfl, hO, hB, hbw, hcr, hcl⟩ := hrel
                by_cases hkl : k < L 0
                · obtain ⟨b', o', e', hck⟩ := hbw k hkl
                  injection e' with e'
                  injection e' with e1 e2
                  subst e1 e2
                  have hcq : wr.cell? ⟨w.heap.size, k, none⟩ = some (.int .i64 (pas l p i k)) := by have := hO.cell k hkl; simpa using this
                  have hfz := hO.free k
                  have hpb := pas_bd l p i k
                  have hki : k < L i := by have := HLi.out; omega
                  have hmx := mx_bd (pas l p i) (p i) (l i) (mostAt l p (L 0) i) (i + 1) (by omega) (fun j => by have := pas_bd l p i j; omega) k
                  have hms : Hid (mx (pas l p i) (p i) (l i) (mostAt l p (L 0) i) (k + 1) = if p i k = true ∧ (k : Int) ≠ l i then max (mx (pas l p i) (p i) (l i) (mostAt l p (L 0) i) k) (pas l p i k + 1) else mx (pas l p i) (p i) (l i) (mostAt l p (L 0) i) k) := hide rfl
                  have hOs : ∀ u, fairQ (pas l p i) (p i) (l i) k = u → OwnInts (wr.setCell ⟨w.heap.size, k, none⟩ (.int .i64 u)) w.heap.size (L 0) (L 0) (fun x => if x < k + 1 then fairQ (pas l p i) (p i) (l i) x else pas l p i x) := fun u hu =>
                    hO.set k u (by simp [hu]) (fun x hx => by by_cases e : x < k <;> simp [e, show (x < k + 1) = (x < k) by simp; omega])
                  have hBs : Hid (∀ u, Below w.heap.size w (wr.setCell ⟨w.heap.size, k, none⟩ u)) := hide (fun u => hB.setCell (by simp) _)
                  have hbs : Hid (∀ u, Bools (wr.setCell ⟨w.heap.size, k, none⟩ u) (some ⟨bt, ot, none⟩) (L 0) (p i)) := hide (fun u j hj => by
                    obtain ⟨b2, o2, e2, h2⟩ := hbw j hj
                    injection e2 with e2
                    injection e2 with e3 e4
                    subst e3 e4
                    exact ⟨_, _, rfl, (World.cell?_setCell_other _ _ _ _ (by intro e; injection e with e; omega)).trans h2⟩)
                  have hb0 : b0 < w.heap.size := World.block_lt_of_cell? w _ hc0
                  have hcls : Hid (∀ u, (wr.setCell ⟨w.heap.size, k, none⟩ u).cell? ⟨bl, ol + i, none⟩ = some (.int .i64 t)) := hide (fun u => (World.cell?_setCell_other _ _ _ _ (by intro e; injection e with e; omega)).trans hcl)
                  have hcs : Hid (∀ u, (wr.setCell ⟨w.heap.size, k, none⟩ u).cell? ⟨b0, off0 + i, none⟩ = some (.slice (some ⟨bt, ot, none⟩) (L i) (C i))) := hide (fun u => (World.cell?_setCell_other _ _ _ _ (by intro e; injection e with e; omega)).trans hcr)
                  generalize mx (pas l p i) (p i) (l i) (mostAt l p (L 0) i) k = M at *
                  clear hO hB hbw
                  cases hpk : p i k with
                  | false =>
                    rw [hpk] at hck
                    have hu : fairQ (pas l p i) (p i) (l i) k = 0 := by simp [fairQ, hpk]
                    have HF := hide (hOs 0 hu)
                    have HM := hide (hms.out.trans (if_neg (by simp [hpk])))
                    clear hOs hu hpk
                    go_wp2
                    go_roundw
                    case rel => exact ⟨k + 1, by omega, by go_num, by rw [HM.out], HF.out, hBs.out _, hbs.out _, hcs.out _, hcls.out _⟩
                    case measure => simp [intOf]; omega
                  | true =>
                    rw [hpk] at hck
                    by_cases hkt : k = t
                    · have hb2 : ((k : Int) != (t : Int)) = false := by simp [hkt]
                      have hu : fairQ (pas l p i) (p i) (l i) k = 0 := by simp [fairQ, Ht.out, hkt]
                      have HF := hide (hOs 0 hu)
                      have HM := hide (hms.out.trans (if_neg (by simp [Ht.out, hkt])))
                      have HKT := hide hkt
                      clear hOs hu hpk hkt
                      go_wp2
                      go_roundw
                      case rel => exact ⟨k + 1, by omega, by go_num, by rw [HM.out], HF.out, hBs.out _, hbs.out _, hcs.out _, hcls.out _⟩
                      case measure => simp [intOf]; omega
                    · have hb2 : ((k : Int) != (t : Int)) = true := by simp; omega
                      have hu : fairQ (pas l p i) (p i) (l i) k = pas l p i k + 1 := by unfold fairQ; rw [if_pos ⟨hpk, by rw [Ht.out]; omega⟩]
                      have HF := hide (hOs _ hu)
                      have HM := hide (hms.out.trans (if_pos ⟨hpk, by rw [Ht.out]; omega⟩))
                      clear hOs hu hpk
                      go_wp2
                      go_roundw
                      case rel => exact ⟨k + 1, by omega, by go_num, by rw [HM.out]; congr 1; split <;> omega, HF.out, hBs.out _, hbs.out _, hcs.out _, hcls.out _⟩
                      case measure => simp [intOf]; omega
                · have hkL : k = L 0 := by omega
                  have hOe : Hid (OwnInts wr w.heap.size (L 0) (L 0) (pas l p (i + 1))) := hide (by rw [hnx.out.2]; exact hO.congr (fun j hj => (if_pos (show j < k by omega)).symm))
                  have HM : Hid (mx (pas l p i) (p i) (l i) (mostAt l p (L 0) i) k = mostAt l p (L 0) (i + 1)) := hide (by rw [hnx.out.1, hkL])
                  generalize mx (pas l p i) (p i) (l i) (mostAt l p (L 0) i) k = M at *
                  have HKL := hide hkL
                  clear hO hkL hbw
                  go_wp2
                  go_roundw
                  case rel => exact ⟨i + 1, by omega, by go_num, by rw [HM.out], hOe.out, hB, hoks⟩
                  case measure => simp [intOf]; omega
          · have hd2 : decide ((L 0 : Int) ≤ (t : Int)) = true := by simp; omega
            have hd3 : decide (L 0 ≤ t) = true := by simp; omega
            clear hl hbold hbw hnx
            go_wp2_with fail
            go_quiet (fail)
            go_wp2
            go_ret2
            exact ⟨fun h => absurd (h i hlt) (by unfold okAt; omega), fun _ => rfl, belowDrewN hB _⟩
      · have hb1 : ((L i : Int) != (L 0 : Int)) = true := by simp; omega
        clear hl hbold hbw hnx
        go_wp2_with fail
        go_quiet (fail)
        go_wp2
        go_ret2
        exact ⟨fun h => absurd (h i hlt) (by unfold okAt; omega), fun _ => rfl, belowDrewN hB _⟩
    · have hjn : i = n := by omega
      subst hjn
      have hmb := most_bd l p (L 0) i
      go_wp2
      go_ret2
      exact ⟨fun _ => rfl, fun h => absurd hok.out h, hB⟩
end Go.Proofs.Ytcdphilgnlcahaa
