/- Walks of slices.Index at int, sched.Pick. -/
import Derived.Test.YtcdphilgnlcahaaNext
namespace Go.Proofs.Ytcdphilgnlcahaa
open Go.RowKit

/-- a slice's ints, as the program reads them -/
def Ints (w : World) (a : Option Addr) (n : Nat) (q : Nat → Int) : Prop :=
  ∀ j, j < n → ∃ b off, a = some ⟨b, off, none⟩ ∧ w.cell? ⟨b, off + j, none⟩ = some (.int .i64 (q j))
theorem Ints.below {w w' : World} {a : Option Addr} {n : Nat} {p : Nat → Int} (h : Ints w a n p) (hb : Below w.heap.size w w') : Ints w' a n p := by
  intro j hj
  obtain ⟨b, off, rfl, hc⟩ := h j hj
  exact ⟨b, off, rfl, (hb.cell (World.block_lt_of_cell? w _ hc)).trans hc⟩
theorem Ints.own {w : World} {base : Nat} {v : Value} {l : List Nat} {T : TypeId} (h : w.ownsRow base T 1 v l.length (ints l)) :
    ∃ a c, v = .slice a l.length c ∧ Ints w a l.length (fun j => ((l.getD j 0 : Nat) : Int)) := by
  rcases h.2 with ⟨rfl, h0⟩ | ⟨g, cap', cur, rfl, h1, h2, h3⟩
  · exact ⟨none, 0, by rw [h0], fun j hj => by omega⟩
  · refine ⟨_, cap', rfl, fun j hj => ⟨g, 0, rfl, ?_⟩⟩
    have := h.cells (g := g) rfl j _ (ints_get l j hj)
    rwa [show (⟨g, 0, none⟩ : Addr).add j = ⟨g, 0 + j, none⟩ by unfold Addr.add; split <;> simp_all] at this

/-- the first place below n at which q is x, or -1 -/
def idxOf (q : Nat → Int) (n : Nat) (x : Int) : Int := match (List.range n).find? (fun j => q j == x) with | some j => j | none => -1

theorem idxOf_hit (q : Nat → Int) (n : Nat) (x : Int) (k : Nat) (hk : k < n) (h : q k = x) (hb : ∀ j, j < k → q j ≠ x) : idxOf q n x = k := by
  have e : (List.range n).find? (fun j => q j == x) = some k := by
    rw [List.find?_range_eq_some]
    exact ⟨by simpa using h, by simpa using hk, fun j hj => by simpa using hb j hj⟩
  unfold idxOf; rw [e]
theorem idxOf_miss (q : Nat → Int) (n : Nat) (x : Int) (hb : ∀ j, j < n → q j ≠ x) : idxOf q n x = -1 := by
  have e : (List.range n).find? (fun j => q j == x) = none := by
    rw [List.find?_eq_none]
    intro j hj; simpa using hb j (by simpa using hj)
  unfold idxOf; rw [e]

set_option maxHeartbeats 400000 in
theorem Index_any (a : Option Addr) (len cap : Nat) (q : Nat → Int) (x : Int) (w : World) (hm : len ≤ 100000) (hc : Ints w a len q) :
    Calls Try.prog 23 #[.slice a len cap, .int .i64 x] w fun e w' => e = .returned (.int .i64 (idxOf q len x)) ∧ w = w' := by
  go_enter Try.func23, Try.ntmps23
  go_wp2
  go_loop [8] (fun i => ∃ k : Nat, k ≤ len ∧ i = .int .i64 k ∧ Hid (∀ j, j < k → q j ≠ x))
    (fun i => len - (intOf i).toNat)
  case atStart => exact ⟨0, Nat.zero_le _, rfl, hide (fun j hj => by omega)⟩
  case round =>
    obtain ⟨k, hk, rfl, hq⟩ := hrel
    by_cases hlt : k < len
    · obtain ⟨b, off, rfl, hcx⟩ := hc k hlt
      clear hc
      by_cases hx : x = q k
      · have Hx := hide hx
        have hb : (x == q k) = true := by simp [hx]
        clear hx
        go_wp2
        go_ret
        exact ⟨by rw [idxOf_hit q len x k hlt Hx.out.symm hq.out] <;> rfl, rfl⟩
      · have Hx := hide hx
        have hb : (x == q k) = false := by simp [hx]
        clear hx
        go_wp2
        go_round
        case rel => exact ⟨k + 1, by omega, by go_num, hide (fun j hj => by
          by_cases e : j = k
          · subst e; exact fun h => Hx.out h.symm
          · exact hq.out j (by omega))⟩
        case measure => simp [intOf]; omega
    · have hkl : k = len := by omega
      subst hkl
      go_wp2
      go_ret
      exact ⟨by rw [idxOf_miss q k x hq.out] <;> rfl, rfl⟩

/-- What Pick answers. -/
def pkE (p : Nat → Bool) (n : Nat) (t : Int) : Int := if t < 0 ∨ (n : Int) ≤ t then 2 else if p t.toNat then 0 else 250
def pkP (p : Nat → Bool) (n : Nat) (t : Int) : Int := if t < 0 ∨ (n : Int) ≤ t then 0 else if p t.toNat then idxOf (fun j => (((rdy p n).getD j 0 : Nat) : Int)) (rdy p n).length t else 0

set_option maxHeartbeats 400000 in
theorem Pick_any (a : Option Addr) (len cap : Nat) (p : Nat → Bool) (t : Int) (w : World) (hm : len ≤ 100000) (ht : -9223372036854775808 ≤ t ∧ t ≤ 9223372036854775807) (hc : Bools w a len p) :
    Calls Try.prog 11 #[.slice a len cap, .int .i64 t] w fun e w' => e = .returned (.tuple #[.int .i64 (pkP p len t), .int .i64 (pkE p len t)]) ∧ Below w.heap.size w w' := by
  by_cases h0 : t < 0
  · have H : Hid (pkP p len t = 0 ∧ pkE p len t = 2) := hide (by simp [pkP, pkE, h0])
    go_enter Try.func11, Try.ntmps11
    go_wp2
    go_ret2
    obtain ⟨h1, h2⟩ := H.out
    exact ⟨by rw [h1, h2] <;> rfl, Below.refl _ _⟩
  · obtain ⟨n, rfl⟩ := Int.eq_ofNat_of_zero_le (show 0 ≤ t by omega)
    by_cases h1 : n < len
    · obtain ⟨b, off, rfl, hcx⟩ := hc n h1
      have h1' : ¬ len ≤ n := by omega
      cases hp : p n with
      | true =>
        rw [hp] at hcx
        have H : Hid (pkP p len n = idxOf (fun j => (((rdy p len).getD j 0 : Nat) : Int)) (rdy p len).length n ∧ pkE p len n = 0) := hide (by simp [pkP, pkE, hp, h1']; try (intro h; omega))
        clear hp
        go_enter Try.func11, Try.ntmps11
        go_wp2_with fail
        refine (ready_any _ len cap p w hm hc).mono ?_
        rintro e w' ⟨v, rfl, hown, hB⟩
        obtain ⟨a', c', rfl, hI⟩ := Ints.own hown
        clear hown
        go_wp2_with fail
        refine (Index_any a' _ c' _ _ w' (Nat.le_trans (rdy_le p len) hm) hI).mono ?_
        rintro e w'' ⟨rfl, rfl⟩
        go_wp2
        go_ret2
        obtain ⟨h1, h2⟩ := H.out
        exact ⟨by rw [h1, h2]; rfl, hB⟩
      | false =>
        rw [hp] at hcx
        have H : Hid (pkP p len n = 0 ∧ pkE p len n = 250) := hide (by simp [pkP, pkE, hp, h1'])
        clear hp
        go_enter Try.func11, Try.ntmps11
        go_wp2
        go_ret2
        obtain ⟨h1, h2⟩ := H.out
        exact ⟨by rw [h1, h2] <;> rfl, Below.refl _ _⟩
    · have h1' : len ≤ n := by omega
      have H : Hid (pkP p len n = 0 ∧ pkE p len n = 2) := hide (by simp [pkP, pkE, h1'])
      go_enter Try.func11, Try.ntmps11
      go_wp2
      go_ret2
      obtain ⟨h1, h2⟩ := H.out
      exact ⟨by rw [h1, h2] <;> rfl, Below.refl _ _⟩
end Go.Proofs.Ytcdphilgnlcahaa
