/- Walks of sched.Next, slices.Index, sched.Pick. -/
import Derived.Test.YtcdphilgnlcahaaReady
namespace Go.Proofs.Ytcdphilgnlcahaa
open Go.RowKit

/-- What Next answers: the task and the refusal. -/
def nxE (p : Nat → Bool) (n : Nat) (pick : Int) : Int := if pick < 0 then 2 else if (rdy p n).length = 0 then 250 else 0
def nxT (p : Nat → Bool) (n : Nat) (pick : Int) : Nat := if pick < 0 then 0 else if (rdy p n).length = 0 then 0 else (rdy p n).getD (pick.toNat % (rdy p n).length) 0

theorem ints_get (l : List Nat) (j : Nat) (h : j < l.length) : (ints l)[j]? = some (.int .i64 ((l.getD j 0 : Nat) : Int)) := by
  simp [ints, h]

/-- a slice's bools, as the program reads them -/
def Bools (w : World) (a : Option Addr) (n : Nat) (p : Nat → Bool) : Prop :=
  ∀ j, j < n → ∃ b off, a = some ⟨b, off, none⟩ ∧ w.cell? ⟨b, off + j, none⟩ = some (.bool (p j))
theorem Bools.below {w w' : World} {a : Option Addr} {n : Nat} {p : Nat → Bool} (h : Bools w a n p) (hb : Below w.heap.size w w') : Bools w' a n p := by
  intro j hj
  obtain ⟨b, off, rfl, hc⟩ := h j hj
  exact ⟨b, off, rfl, (hb.cell (World.block_lt_of_cell? w _ hc)).trans hc⟩

theorem tdiv_rem_nat (a : Int) (n : Nat) (h : 0 ≤ a) : (a % (n : Int)).toNat = a.toNat % n := by
  obtain ⟨m, rfl⟩ := Int.eq_ofNat_of_zero_le h
  rw [Int.toNat_natCast, ← Int.natCast_emod, Int.toNat_natCast]

theorem Next_neg (a : Option Addr) (len cap : Nat) (pick : Int) (w : World) (h : pick < 0) :
    Calls Try.prog 9 #[.slice a len cap, .int .i64 pick] w fun e w' => e = .returned (.tuple #[.int .i64 0, .int .i64 2]) ∧ w = w' := by
  go_enter Try.func9, Try.ntmps9
  go_wp2
  go_ret2
  exact ⟨rfl, rfl⟩

set_option maxHeartbeats 400000 in
theorem Next_any (a : Option Addr) (len cap : Nat) (p : Nat → Bool) (pick : Int) (w : World) (hm : len ≤ 100000) (hp : pick ≤ 9223372036854775807) (hc : Bools w a len p) :
    Calls Try.prog 9 #[.slice a len cap, .int .i64 pick] w fun e w' => e = .returned (.tuple #[.int .i64 (nxT p len pick), .int .i64 (nxE p len pick)]) ∧ Below w.heap.size w w' := by
  by_cases h0 : pick < 0
  · refine (Next_neg a len cap pick w h0).mono ?_
    rintro e w' ⟨rfl, rfl⟩
    exact ⟨by simp [nxT, nxE, h0], Below.refl _ _⟩
  · have h0' : 0 ≤ pick := by omega
    have hle := rdy_le p len
    by_cases hr : (rdy p len).length = 0
    · have H : Hid (nxT p len pick = 0 ∧ nxE p len pick = 250) := hide (by simp [nxT, nxE, h0, hr])
      go_enter Try.func9, Try.ntmps9
      go_wp2_with fail
      refine (ready_any a len cap p w hm hc).mono ?_
      rintro e w' ⟨v, rfl, hown, hB⟩
      rw [hr] at hown
      have hv : ∃ a' c', v = .slice a' 0 c' := by
        rcases hown.2 with ⟨rfl, _⟩ | ⟨g, cap', cur, rfl, _⟩
        · exact ⟨_, _, rfl⟩
        · exact ⟨_, _, rfl⟩
      obtain ⟨a', c', rfl⟩ := hv
      clear hown hr
      go_wp2
      go_ret2
      obtain ⟨h1, h2⟩ := H.out
      exact ⟨by rw [h1, h2]; rfl, hB⟩
    · have H : Hid (nxT p len pick = (rdy p len).getD (pick.toNat % (rdy p len).length) 0 ∧ nxE p len pick = 0) := hide (by simp [nxT, nxE, h0, hr])
      go_enter Try.func9, Try.ntmps9
      go_wp2_with fail
      refine (ready_any a len cap p w hm hc).mono ?_
      rintro e w' ⟨v, rfl, hown, hB⟩
      have hpos : 0 < (rdy p len).length := by omega
      have hcell : ∀ j, j < (rdy p len).length → ∃ g c, v = .slice (some ⟨g, 0, none⟩) (rdy p len).length c ∧ w'.cell? ⟨g, j, none⟩ = some (.int .i64 (((rdy p len).getD j 0 : Nat) : Int)) := by
        intro j hj
        rcases hown.2 with ⟨_, h⟩ | ⟨g, cap', cur, rfl, h1, h2, h3⟩
        · omega
        · refine ⟨g, cap', rfl, ?_⟩
          have := hown.cells (g := g) rfl j _ (ints_get _ j hj)
          rwa [show (⟨g, 0, none⟩ : Addr).add j = ⟨g, j, none⟩ by unfold Addr.add; split <;> simp_all] at this
      clear hown
      obtain ⟨g, c, rfl, hcx⟩ := hcell (pick.toNat % (rdy p len).length) (Nat.mod_lt _ hpos)
      clear hcell
      generalize hn : (rdy p len).length = n at *
      generalize hx : (rdy p len).getD (pick.toNat % n) 0 = x at *
      have hHn := hide hn
      have hHx := hide hx
      have hrem := tdiv_rem_nat pick n h0'
      have hlt : pick % (n : Int) < (n : Int) := Int.emod_lt_of_pos _ (by omega)
      have hge : 0 ≤ pick % (n : Int) := Int.emod_nonneg _ (by omega)
      clear hn hx
      go_wp2
      go_ret2
      obtain ⟨h1, h2⟩ := H.out
      exact ⟨by rw [h1, h2]; rfl, hB⟩
end Go.Proofs.Ytcdphilgnlcahaa
