/- index.Read's closure: the next bytes as a number. -/
import Derived.Test.YthbknahmmegcdaaIxPut
import Derived.Laws.Bits64b
namespace Go.Proofs.Ythbknahmmegcdaa
open Go.RowKit Go.Shelf

/-- n bytes from o on, the lowest first -/
def valF (f : Nat → Nat) (o : Nat) : Nat → Nat
  | 0 => 0
  | n + 1 => f o + 256 * valF f (o + 1) n
theorem valF_lt {f : Nat → Nat} (hf : ∀ j, f j < 256) : ∀ (n o : Nat), valF f o n < 256 ^ n
  | 0, _ => by simp [valF]
  | n + 1, o => by
    have h1 := valF_lt hf n (o + 1)
    have h2 := hf o
    simp only [valF, Nat.pow_succ]
    omega

set_option maxHeartbeats 1600000 in
theorem get_ok (n : Nat) (hn : n ≤ 8) (f : Nat → Nat) (o : Nat) (hf : ∀ j, f j < 256) (Bb : Nat) (a : Option Addr) (len cap : Nat) (w0 w : World) (hle : n ≤ len) (hlen : len ≤ 100000) (hcap : len ≤ cap) (hb : Boxed w Bb 43 (.slice a len cap))
    (hs0 : CellsAt w0 a len (fun j => .int .u8 (f (o + j) : Nat))) (hbel : Below w0.heap.size w0 w) :
    Calls Try.prog 36 #[.int .i64 (n : Nat), .pointer (some ⟨Bb, 0, none⟩)] w fun e w' => e = .returned (.int .u64 (valF f o n : Nat)) ∧ ∃ a2 c2, len - n ≤ c2 ∧ CellsAt w0 a2 (len - n) (fun j => .int .u8 (f (o + n + j) : Nat)) ∧ w' = w.setCell ⟨Bb, 0, none⟩ (.slice a2 (len - n) c2) := by
  have hs := hs0.below hbel (Nat.le_refl _)
  have cb := hb.cell
  have fb := hb.frozen
  go_enter Try.func36, Try.ntmps36
  have hw1 : IntKind.i64.wrap ((n : Int) - 1) = (n : Int) - 1 := by rw [IntKind.wrap_i64]; omega
  go_wp2
  go_loopw [4, 5] (fun x i wr => ∃ k : Nat, k ≤ n ∧ i = .int .i64 ((k : Int) - 1) ∧ x = .int .u64 (valF f (o + k) (n - k) : Nat) ∧ wr = w) (fun _ i _ => ((intOf i) + 1).toNat)
  case atStart => exact ⟨n, Nat.le_refl _, rfl, by simp [valF], rfl⟩
  case round =>
    obtain ⟨k, hk, rfl, rfl, rfl⟩ := hrel
    by_cases hlt : 0 < k
    · obtain ⟨k0, rfl⟩ : ∃ k0, k = k0 + 1 := ⟨k - 1, by omega⟩
      obtain ⟨b, off, rfl, m0⟩ := hs k0 (by omega)
      have hv := valF_lt hf (n - (k0 + 1)) (o + (k0 + 1))
      have hst : valF f (o + k0) (n - k0) = f (o + k0) + 256 * valF f (o + (k0 + 1)) (n - (k0 + 1)) := by
        rw [show n - k0 = n - (k0 + 1) + 1 by omega]
        rfl
      have hfk := hf (o + k0)
      have hx : valF f (o + (k0 + 1)) (n - (k0 + 1)) < 72057594037927936 := by
        have h1 : 256 ^ (n - (k0 + 1)) ≤ 256 ^ 7 := Nat.pow_le_pow_right (by omega) (by omega)
        have h2 : (256 : Nat) ^ 7 = 72057594037927936 := by decide
        omega
      have hor : bits .or .u64 (((valF f (o + (k0 + 1)) (n - (k0 + 1)) : Nat) : Int) * 256) ((f (o + k0) : Nat) : Int) = ((valF f (o + k0) (n - k0) : Nat) : Int) := by
        rw [hst]
        generalize valF f (o + (k0 + 1)) (n - (k0 + 1)) = v at *
        generalize f (o + k0) = c at *
        rw [show ((v : Int) * 256) = ((2 ^ 8 * v : Nat) : Int) by omega, bits_or_u64_nat _ _ (by omega) (by omega), ← Nat.two_pow_add_eq_or_of_lt (by omega)]
        congr 1
        omega
      clear hst hv
      go_wp2
      go_roundw
      case rel => exact ⟨k0, by omega, rfl, rfl, trivial⟩
      case measure => simp [intOf]
    · obtain rfl : k = 0 := by omega
      have HS := hide hs0
      clear hs hs0
      by_cases hc : cap = n
      · obtain rfl : len = n := by omega
        go_wp2
        go_ret
        exact ⟨rfl, a, 0, by omega, fun j hj => by omega, by rw [Nat.sub_self]⟩
      · go_wp2
        go_ret
        refine ⟨rfl, _, _, by omega, ?_, rfl⟩
        intro j hj
        obtain ⟨b, off, rfl, m0⟩ := HS.out (n + j) (by omega)
        refine ⟨b, off + n, ?_, ?_⟩
        · simp [addr_add]
        · rw [show off + n + j = off + (n + j) by omega, m0]
          show some (Value.int .u8 (f (o + (n + j)) : Nat)) = some (Value.int .u8 (f (o + n + j) : Nat))
          rw [Nat.add_assoc]
end Go.Proofs.Ythbknahmmegcdaa
