/- Walk of the law SchedTurns. -/
import Derived.Test.YtcdphilgnlcahaaKnown
namespace Go.Proofs.Ytcdphilgnlcahaa
open Go.RowKit

theorem rdy_prefix (p : Nat → Bool) (i n : Nat) (h : i ≤ n) : ∃ r, rdy p n = rdy p i ++ r := by
  induction n with
  | zero => exact ⟨[], by simp [show i = 0 by omega]⟩
  | succ n ih =>
    by_cases e : i = n + 1
    · exact ⟨[], by simp [e]⟩
    · obtain ⟨r, hr⟩ := ih (by omega)
      exact ⟨r ++ if p n then [n] else [], by rw [rdy_succ, hr, List.append_assoc]⟩

theorem rdy_get (p : Nat → Bool) (i n : Nat) (h : i < n) (hp : p i = true) : (rdy p i).length < (rdy p n).length ∧ (rdy p n).getD (rdy p i).length 0 = i := by
  obtain ⟨r, hr⟩ := rdy_prefix p (i + 1) n (by omega)
  rw [rdy_succ, hp] at hr
  rw [hr]
  constructor
  · simp
  · simp

theorem rdy_next (p : Nat → Bool) (i n r : Nat) (h : i < n) (hp : p i = true) :
    nxT p n ((r * (rdy p n).length + (rdy p i).length : Nat) : Int) = i ∧ nxE p n ((r * (rdy p n).length + (rdy p i).length : Nat) : Int) = 0 := by
  obtain ⟨h1, h2⟩ := rdy_get p i n h hp
  have h3 : ¬ ((r * (rdy p n).length + (rdy p i).length : Nat) : Int) < 0 := by omega
  have h4 : (rdy p n).length ≠ 0 := by omega
  unfold nxT nxE
  rw [if_neg h3, if_neg h4, if_neg h3, if_neg h4, Int.toNat_natCast, Nat.add_comm, Nat.add_mul_mod_self_right, Nat.mod_eq_of_lt h1]
  exact ⟨h2, rfl⟩

theorem rdy_len (p : Nat → Bool) (k : Nat) : (rdy p (k + 1)).length = (rdy p k).length + if p k then 1 else 0 := by
  rw [rdy_succ]; cases p k <;> simp

set_option maxHeartbeats 1600000 in
theorem turns_walk (a : Option Addr) (len cap : Nat) (p : Nat → Bool) (rounds : Int) (w : World) (hm : len ≤ 9223372036854775807) (hr : -9223372036854775808 ≤ rounds ∧ rounds ≤ 9223372036854775807) (hc : Bools w a len p) :
    Calls Try.prog 3 #[.slice a len cap, .int .i64 rounds] w fun e w' => e = .returned (.bool true) ∧ Below w.heap.size w w' := by
  by_cases h1 : 200 < len
  · go_enter Try.func3, Try.ntmps3
    go_wp2_with fail
    refine (known_ok w).mono ?_
    rintro e w' ⟨rfl, hB⟩
    go_wp2
    go_ret
    exact ⟨rfl, hB⟩
  · by_cases h2 : 20 < rounds
    · go_enter Try.func3, Try.ntmps3
      go_wp2_with fail
      refine (known_ok w).mono ?_
      rintro e w' ⟨rfl, hB⟩
      go_wp2
      go_ret
      exact ⟨rfl, hB⟩
    · go_enter Try.func3, Try.ntmps3
      go_wp2_with fail
      go_loop [5, 6] (fun n i => ∃ k : Nat, k ≤ len ∧ i = .int .i64 k ∧ n = .int .i64 ((rdy p k).length : Nat)) (fun _ i => len - (intOf i).toNat)
      case atStart => exact ⟨0, Nat.zero_le _, rfl, rfl⟩
      case round =>
        obtain ⟨k, hk, rfl, rfl⟩ := hrel
        have hle := rdy_le p k
        by_cases hlt : k < len
        · obtain ⟨b, off, rfl, hcx⟩ := hc k hlt
          have hs := rdy_len p k
          cases hp : p k with
          | true =>
            rw [hp] at hcx hs
            have HS := hide hs
            clear hs hp hc
            go_wp2
            go_round
            case rel => exact ⟨k + 1, by omega, by go_num, by rw [HS.out]; go_num⟩
            case measure => simp [intOf]; omega
          | false =>
            rw [hp] at hcx hs
            have HS := hide hs
            clear hs hp hc
            go_wp2
            go_round
            case rel => exact ⟨k + 1, by omega, by go_num, by rw [HS.out]; go_num⟩
            case measure => simp [intOf]; omega
        · have hkl : k = len := by omega
          subst hkl
          by_cases hn : (rdy p k).length = 0
          · have hE : nxE p k 0 = 250 := by simp [nxE, hn]
            have hn0 : (((rdy p k).length : Int) == 0) = true := by simp [hn]
            have HE := hide hE
            clear hE hn
            go_wp2_with fail
            refine (Next_any a k cap p 0 w (by omega) (by omega) hc).mono ?_
            rw [HE.out]
            rintro e w' ⟨rfl, hB⟩
            go_wp2_with fail
            refine (known_ok w').mono ?_
            rintro e w2 ⟨rfl, hB2⟩
            go_wp2
            go_ret
            exact ⟨rfl, hB.trans (hB2.mono hB.size)⟩
          · have hn0 : (((rdy p k).length : Int) == 0) = false := by simp; intro h; simp [h] at hn
            clear hn
            go_wp2_with fail
            go_loopw [9, 10] (fun pk r wr => ∃ j : Nat, (j ≤ 20 ∧ ((j : Int) ≤ rounds ∨ j = 0)) ∧ r = .int .i64 j ∧ pk = .int .i64 ((j * (rdy p k).length : Nat) : Int) ∧ Below w.heap.size w wr) (fun _ r _ => (rounds - intOf r).toNat)
            case atStart => exact ⟨0, by omega, rfl, by simp, Below.refl _ _⟩
            case round =>
              obtain ⟨j, ⟨hj1, hj2⟩, rfl, rfl, hB⟩ := hrel
              obtain ⟨wo, rfl⟩ : ∃ wo : World, wo = wr := ⟨_, rfl⟩
              have hb1 := Nat.mul_le_mul hj1 (Nat.le_trans hle (show k ≤ 200 by omega))
              by_cases hlt2 : (j : Int) < rounds
              · go_wp2_with fail
                go_loopw [9, 11] (fun pk i wr => ∃ i' : Nat, i' ≤ k ∧ i = .int .i64 i' ∧ pk = .int .i64 ((j * (rdy p k).length + (rdy p i').length : Nat) : Int) ∧ Below w.heap.size w wr) (fun _ i _ => k - (intOf i).toNat)
                case atStart => exact ⟨0, by omega, rfl, rfl, hB⟩
                case round =>
                  clear hB
                  obtain ⟨i, hi, rfl, rfl, hB⟩ := hrel
                  by_cases hik : i < k
                  · obtain ⟨b, off, rfl, hcx0⟩ := hc i hik
                    have hcx : wr.cell? ⟨b, off + i, none⟩ = some (.bool (p i)) := (hB.cell (World.block_lt_of_cell? w _ hcx0)).trans hcx0
                    have hcr : Bools wr (some ⟨b, off, none⟩) k p := fun j hj => by
                      obtain ⟨b', off', e, h⟩ := hc j hj
                      exact ⟨b', off', e, (hB.cell (World.block_lt_of_cell? w _ h)).trans h⟩
                    have HC := hide hcr
                    have hli := rdy_le p i
                    have hs := rdy_len p i
                    have hnx := rdy_next p i k j hik
                    clear hc hcx0 hcr
                    cases hp : p i with
                    | true =>
                      obtain ⟨e1, e2⟩ := hnx hp
                      rw [hp] at hcx hs
                      have HS := hide hs
                      have H1 := hide e1
                      have H2 := hide e2
                      clear hs hp hnx e1 e2
                      go_wp2_with fail
                      refine (Next_any _ k cap p ((j * (rdy p k).length + (rdy p i).length : Nat) : Int) wr (by omega) (by omega) HC.out).mono ?_
                      rw [H1.out, H2.out]
                      rintro e w' ⟨rfl, hB'⟩
                      go_wp2
                      go_roundw
                      case rel => exact ⟨i + 1, by omega, by go_num, by rw [HS.out]; go_num, hB.trans (hB'.mono hB.size)⟩
                      case measure => simp [intOf]; omega
                    | false =>
                      rw [hp] at hcx hs
                      have HS := hide hs
                      clear hs hp hnx
                      go_wp2
                      go_roundw
                      case rel => exact ⟨i + 1, by omega, by go_num, by rw [HS.out]; go_num, hB⟩
                      case measure => simp [intOf]; omega
                  · have hik' : i = k := by omega
                    subst hik'
                    have hmul : (j + 1) * (rdy p i).length = j * (rdy p i).length + (rdy p i).length := Nat.succ_mul _ _
                    have HM := hide hmul
                    clear hmul
                    go_wp2
                    go_roundw
                    case rel => exact ⟨j + 1, by omega, by go_num, by rw [HM.out], hB⟩
                    case measure => simp [intOf]; omega
              · go_wp2_with fail
                refine (known_ok _).mono ?_
                rintro e w' ⟨rfl, hB'⟩
                go_wp2
                go_ret
                exact ⟨rfl, hB.trans (hB'.mono hB.size)⟩
end Go.Proofs.Ytcdphilgnlcahaa
