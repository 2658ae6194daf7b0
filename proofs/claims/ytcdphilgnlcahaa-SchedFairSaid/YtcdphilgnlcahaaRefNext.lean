/- Walks of the reference's Next and Pick: they answer what the program's answer. -/
import Derived.Test.YtcdphilgnlcahaaTurns
namespace Go.Proofs.Ytcdphilgnlcahaa
open Go.RowKit

theorem rdy_lt (p : Nat → Bool) (t : Nat) : ∀ j, j < (rdy p t).length → (rdy p t).getD j 0 < t := by
  intro j hj
  have : (rdy p t).getD j 0 ∈ rdy p t := by rw [List.getD, List.getElem?_eq_getElem hj]; exact List.getElem_mem hj
  simp [rdy] at this
  simpa [rdy] using this.1

theorem pick_eq (p : Nat → Bool) (t n : Nat) (h : t < n) (hp : p t = true) : idxOf (fun j => (((rdy p n).getD j 0 : Nat) : Int)) (rdy p n).length (t : Int) = ((rdy p t).length : Nat) := by
  obtain ⟨h1, h2⟩ := rdy_get p t n h hp
  refine idxOf_hit _ _ _ _ h1 (by rw [h2]) fun j hj => ?_
  obtain ⟨r, hr⟩ := rdy_prefix p t n (by omega)
  have e : (rdy p n).getD j 0 = (rdy p t).getD j 0 := by rw [hr]; simp [List.getD, List.getElem?_append_left hj]
  rw [e]
  have := rdy_lt p t j hj
  omega

theorem rdy_mono (p : Nat → Bool) (i n : Nat) (h : i ≤ n) : (rdy p i).length ≤ (rdy p n).length := by
  obtain ⟨r, hr⟩ := rdy_prefix p i n h
  rw [hr]; simp

set_option maxHeartbeats 800000 in
theorem refNext_any (a : Option Addr) (len cap : Nat) (p : Nat → Bool) (pick : Int) (w : World) (hm : len ≤ 100000) (hpk : pick ≤ 9223372036854775807) (hc : Bools w a len p) :
    Calls Try.prog 10 #[.slice a len cap, .int .i64 pick] w fun e w' => e = .returned (.tuple #[.int .i64 (nxT p len pick), .int .i64 (nxE p len pick)]) ∧ w = w' := by
  by_cases h0 : pick < 0
  · have H : Hid (nxT p len pick = 0 ∧ nxE p len pick = 2) := hide (by simp [nxT, nxE, h0])
    go_enter Try.func10, Try.ntmps10
    go_wp2
    go_ret2
    obtain ⟨h1, h2⟩ := H.out
    exact ⟨by rw [h1, h2] <;> rfl, rfl⟩
  · obtain ⟨pk, rfl⟩ := Int.eq_ofNat_of_zero_le (show 0 ≤ pick by omega)
    go_enter Try.func10, Try.ntmps10
    go_wp2
    go_loop [6, 7] (fun n i => ∃ k : Nat, k ≤ len ∧ i = .int .i64 k ∧ n = .int .i64 ((rdy p k).length : Nat)) (fun _ i => len - (intOf i).toNat)
    case atStart => exact ⟨0, Nat.zero_le _, rfl, rfl⟩
    case round =>
      obtain ⟨k, hk, rfl, rfl⟩ := hrel
      have hle := rdy_le p k
      by_cases hlt : k < len
      · obtain ⟨b, off, rfl, hcx⟩ := hc k hlt
        have hs := rdy_len p k
        cases hp : p k with
        | true =>
          rw [hp] at hcx hs
          have HS := hide hs
          clear hs hp hc
          go_wp2
          go_round
          case rel => exact ⟨k + 1, by omega, by go_num, by rw [HS.out]; go_num⟩
          case measure => simp [intOf]; omega
        | false =>
          rw [hp] at hcx hs
          have HS := hide hs
          clear hs hp hc
          go_wp2
          go_round
          case rel => exact ⟨k + 1, by omega, by go_num, by rw [HS.out]; go_num⟩
          case measure => simp [intOf]; omega
      · have hkl : k = len := by omega
        subst hkl
        by_cases hn : (rdy p k).length = 0
        · have H : Hid (nxT p k pk = 0 ∧ nxE p k pk = 250) := hide (by simp [nxT, nxE, hn])
          have hn0 : (((rdy p k).length : Int) == 0) = true := by simp [hn]
          clear hn
          go_wp2
          go_ret2
          obtain ⟨h1, h2⟩ := H.out
          exact ⟨by rw [h1, h2] <;> rfl, rfl⟩
        · have hn0 : (((rdy p k).length : Int) == 0) = false := by simp; intro h; simp [h] at hn
          have hpos : 0 < (rdy p k).length := by omega
          have hE : Hid (nxE p k pk = 0) := hide (by simp [nxE, hn])
          have hT : Hid (nxT p k pk = (rdy p k).getD (pk % (rdy p k).length) 0) := hide (by unfold nxT; rw [if_neg (by omega), if_neg hn, Int.toNat_natCast])
          have hlt2 : pk % (rdy p k).length < (rdy p k).length := Nat.mod_lt _ hpos
          have hcast : Hid ((pk : Int) % ((rdy p k).length : Int) = ((pk % (rdy p k).length : Nat) : Int)) := hide (by simp)
          clear hn
          go_wp2_with fail
          rw [hcast.out]
          generalize hL : pk % (rdy p k).length = L at *
          have HL := hide hL
          clear hL
          go_loop [8, 9] (fun left i => ∃ j : Nat, j ≤ k ∧ i = .int .i64 j ∧ (rdy p j).length ≤ L ∧ left = .int .i64 ((L : Int) - (rdy p j).length)) (fun _ i => k - (intOf i).toNat)
          case atStart => exact ⟨0, by omega, rfl, by simp [rdy], by simp [rdy]⟩
          case round =>
            obtain ⟨j, hj, rfl, hjL, rfl⟩ := hrel
            by_cases hjk : j < k
            · obtain ⟨b, off, rfl, hcx⟩ := hc j hjk
              have hs := rdy_len p j
              have hlej := rdy_le p j
              cases hp : p j with
              | true =>
                rw [hp] at hcx hs
                have hg := rdy_get p j k hjk hp
                by_cases hjL2 : (rdy p j).length = L
                · have hb : (((L : Int) - (rdy p j).length) == 0) = true := by rw [hjL2]; simp
                  have HR : Hid (Value.int .i64 (nxT p k pk) = .int .i64 (j : Nat) ∧ Value.int .i64 (nxE p k pk) = .int .i64 0) := hide (by rw [hE.out, hT.out, ← hjL2, hg.2]; exact ⟨rfl, rfl⟩)
                  clear hs hp hc hjL2 hg
                  go_wp2
                  go_ret2
                  obtain ⟨h1, h2⟩ := HR.out
                  exact ⟨by rw [h1, h2] <;> rfl, rfl⟩
                · have hb : (((L : Int) - (rdy p j).length) == 0) = false := by simp; omega
                  have HS := hide hs
                  clear hs hp hc hg
                  go_wp2
                  go_round
                  case rel => exact ⟨j + 1, by omega, by go_num, by rw [HS.out]; simp; omega, by rw [HS.out]; simp; omega⟩
                  case measure => simp [intOf]; omega
              | false =>
                rw [hp] at hcx hs
                have HS := hide hs
                clear hs hp hc
                go_wp2
                go_round
                case rel => exact ⟨j + 1, by omega, by go_num, by rw [HS.out]; simpa using hjL, by rw [HS.out]; simp⟩
                case measure => simp [intOf]; omega
            · have hkl : j = k := by omega
              subst hkl
              omega

set_option maxHeartbeats 800000 in
theorem refPick_any (a : Option Addr) (len cap : Nat) (p : Nat → Bool) (t : Int) (w : World) (hm : len ≤ 100000) (ht : -9223372036854775808 ≤ t ∧ t ≤ 9223372036854775807) (hc : Bools w a len p) :
    Calls Try.prog 12 #[.slice a len cap, .int .i64 t] w fun e w' => e = .returned (.tuple #[.int .i64 (pkP p len t), .int .i64 (pkE p len t)]) ∧ w = w' := by
  by_cases h0 : t < 0
  · have H : Hid (pkP p len t = 0 ∧ pkE p len t = 2) := hide (by simp [pkP, pkE, h0])
    go_enter Try.func12, Try.ntmps12
    go_wp2
    go_ret2
    obtain ⟨h1, h2⟩ := H.out
    exact ⟨by rw [h1, h2] <;> rfl, rfl⟩
  · obtain ⟨n, rfl⟩ := Int.eq_ofNat_of_zero_le (show 0 ≤ t by omega)
    by_cases h1 : n < len
    · obtain ⟨b, off, rfl, hcx⟩ := hc n h1
      have h1' : ¬ len ≤ n := by omega
      cases hp : p n with
      | true =>
        rw [hp] at hcx
        have H : Hid (pkP p len n = (rdy p n).length ∧ pkE p len n = 0) := hide ⟨by unfold pkP; rw [if_neg (by omega), if_pos (by simpa using hp), pick_eq p n len h1 hp], by unfold pkE; rw [if_neg (by omega), if_pos (by simpa using hp)]⟩
        clear hp
        go_enter Try.func12, Try.ntmps12
        go_wp2
        go_loop [6, 7] (fun n' i => ∃ k : Nat, k ≤ n ∧ i = .int .i64 k ∧ n' = .int .i64 ((rdy p k).length : Nat)) (fun _ i => n - (intOf i).toNat)
        case atStart => exact ⟨0, Nat.zero_le _, rfl, rfl⟩
        case round =>
          clear hcx
          obtain ⟨k, hk, rfl, rfl⟩ := hrel
          have hle := rdy_le p k
          by_cases hlt : k < n
          · obtain ⟨b', off', he, hcx⟩ := hc k (by omega)
            injection he with he
            injection he with he1 he2
            subst he1 he2
            have hs := rdy_len p k
            cases hp : p k with
            | true =>
              rw [hp] at hcx hs
              have HS := hide hs
              clear hs hp hc
              go_wp2
              go_round
              case rel => exact ⟨k + 1, by omega, by go_num, by rw [HS.out]; go_num⟩
              case measure => simp [intOf]; omega
            | false =>
              rw [hp] at hcx hs
              have HS := hide hs
              clear hs hp hc
              go_wp2
              go_round
              case rel => exact ⟨k + 1, by omega, by go_num, by rw [HS.out]; go_num⟩
              case measure => simp [intOf]; omega
          · have hkl : k = n := by omega
            subst hkl
            go_wp2
            go_ret2
            obtain ⟨h1, h2⟩ := H.out
            exact ⟨by rw [h1, h2] <;> rfl, rfl⟩
      | false =>
        rw [hp] at hcx
        have H : Hid (pkP p len n = 0 ∧ pkE p len n = 250) := hide (by simp [pkP, pkE, hp, h1'])
        clear hp
        go_enter Try.func12, Try.ntmps12
        go_wp2
        go_ret2
        obtain ⟨h1, h2⟩ := H.out
        exact ⟨by rw [h1, h2] <;> rfl, rfl⟩
    · have h1' : len ≤ n := by omega
      have H : Hid (pkP p len n = 0 ∧ pkE p len n = 2) := hide (by simp [pkP, pkE, h1'])
      go_enter Try.func12, Try.ntmps12
      go_wp2
      go_ret2
      obtain ⟨h1, h2⟩ := H.out
      exact ⟨by rw [h1, h2] <;> rfl, rfl⟩
end Go.Proofs.Ytcdphilgnlcahaa
