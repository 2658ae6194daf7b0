/- Walks of crc.Zeros, Combine, More, Sum. -/
import Derived.Test.YtbcdalgfceagcaaCrcCarry
namespace Go.Proofs.Ytbcdalgfceagcaa
open Go.RowKit

theorem u32max : IntKind.u32.max = 4294967295 := rfl
theorem u32not (x : Nat) (h : x < 4294967296) : bits .xor .u32 4294967295 (x : Int) = ((notN x : Nat) : Int) := by rw [notN_eq]; exact u32xor 4294967295 x (by omega) h

theorem Zeros_ok (n : Int) (hn : n ≤ 9223372036854775807) (w : World) :
    Calls Try.prog 14 #[.int .i64 n] w fun e w' => e = .returned (.int .u32 (notN (stpN (8 * n.toNat) 4294967295) : Nat)) ∧ Below w.heap.size w w' := by
  have hv := stpN_lt (x := 4294967295) (8 * n.toNat) (by omega)
  have hcv := carry_ok 4294967295 (by omega) n hn w
  have HCV := hide hcv
  have hmx := u32max
  have hnn := u32not _ hv
  clear hcv
  generalize stpN (8 * n.toNat) 4294967295 = v at *
  go_enter Try.func14, Try.ntmps14
  go_wp2_with fail
  refine HCV.out.mono ?_
  rintro e w' ⟨rfl, hB⟩
  go_wp2
  go_ret
  exact ⟨rfl, hB⟩

theorem Combine_ok (a b : Nat) (ha : a < 4294967296) (hb : b < 4294967296) (n : Int) (hn : n ≤ 9223372036854775807) (w : World) :
    Calls Try.prog 16 #[.int .u32 a, .int .u32 b, .int .i64 n] w fun e w' => e = .returned (.int .u32 (stpN (8 * n.toNat) a ^^^ b : Nat)) ∧ Below w.heap.size w w' := by
  have hv := stpN_lt (8 * n.toNat) ha
  have hcv := carry_ok a ha n hn w
  have HCV := hide hcv
  have hnn := u32xor _ b hv hb
  clear hcv
  generalize stpN (8 * n.toNat) a = v at *
  go_enter Try.func16, Try.ntmps16
  go_wp2_with fail
  refine HCV.out.mono ?_
  rintro e w' ⟨rfl, hB⟩
  go_wp2
  go_ret
  exact ⟨rfl, hB⟩

theorem More_ok (s : Nat) (hs : s < 4294967296) (a : Option Addr) (c : Nat) (l : List Nat) (w : World) (hn : l.length ≤ 9223372036854775807) (hl : ∀ c ∈ l, c < 256) (hb : BytesAt w a l) :
    Calls Try.prog 19 #[.int .u32 s, .slice a l.length c] w fun e w' => e = .returned (.int .u32 (moreL s l : Nat)) ∧ Below w.heap.size w w' := by
  have hv := intoL_lt l (notN_lt hs) hl
  have hcv := into_ok (notN s) (notN_lt hs) a c l w hn hl hb
  have HCV := hide hcv
  have hmx := u32max
  have hn1 := u32not s hs
  have hn2 := u32not _ hv
  have HM : Hid (moreL s l = notN (intoL (notN s) l)) := hide (moreL_not s l)
  clear hcv hb
  generalize intoL (notN s) l = v at *
  go_enter Try.func19, Try.ntmps19
  go_wp2_with fail
  refine HCV.out.mono ?_
  rintro e w' ⟨rfl, hB⟩
  go_wp2
  go_ret
  exact ⟨by rw [HM.out] <;> rfl, hB⟩

/-- parts one behind the other -/
def joinL (l : Nat → List Nat) (n : Nat) : List Nat := (List.range n).flatMap l
theorem joinL_succ (l : Nat → List Nat) (n : Nat) : joinL l (n + 1) = joinL l n ++ l n := by simp [joinL, List.range_succ]
/-- a list of texts in memory -/
structure PartsAt (w : World) (a : Option Addr) (n : Nat) (A : Nat → Option Addr) (C : Nat → Nat) (l : Nat → List Nat) : Prop where
  at_ : ∀ i, i < n → ∃ b off, a = some ⟨b, off, none⟩ ∧ w.cell? ⟨b, off + i, none⟩ = some (.slice (A i) (l i).length (C i))
  text : ∀ i, i < n → BytesAt w (A i) (l i)
  small : ∀ i, i < n → (l i).length ≤ 9223372036854775807 ∧ ∀ c ∈ l i, c < 256
theorem PartsAt.below {w w' : World} {a : Option Addr} {n : Nat} {A : Nat → Option Addr} {C : Nat → Nat} {l : Nat → List Nat} {B : Nat} (h : PartsAt w a n A C l) (hb : Below B w w') (hB : w.heap.size ≤ B) : PartsAt w' a n A C l := by
  refine ⟨fun i hi => ?_, fun i hi => (h.text i hi).below hb hB, h.small⟩
  obtain ⟨b, off, rfl, h1⟩ := h.at_ i hi
  exact ⟨b, off, rfl, (hb.cell (Nat.lt_of_lt_of_le (World.block_lt_of_cell? w _ h1) hB)).trans h1⟩

set_option maxHeartbeats 800000 in
theorem Sum_ok (a : Option Addr) (n c : Nat) (A : Nat → Option Addr) (C : Nat → Nat) (l : Nat → List Nat) (w : World) (hn : n ≤ 9223372036854775807) (h : PartsAt w a n A C l) :
    Calls Try.prog 18 #[.slice a n c] w fun e w' => e = .returned (.int .u32 (sumL (joinL l n) : Nat)) ∧ Below w.heap.size w w' := by
  have hmx := u32max
  go_enter Try.func18, Try.ntmps18
  go_wp2
  go_loopw [3, 8] (fun x i wr => ∃ k : Nat, k ≤ n ∧ i = .int .i64 k ∧ x = .int .u32 (intoL 4294967295 (joinL l k) : Nat) ∧ Below w.heap.size w wr ∧ intoL 4294967295 (joinL l k) < 4294967296) (fun _ i _ => n - (intOf i).toNat)
  case atStart => exact ⟨0, Nat.zero_le _, rfl, rfl, Below.refl _ _, by show 4294967295 < 4294967296; omega⟩
  case round =>
    obtain ⟨k, hk, rfl, rfl, hB, hlt32⟩ := hrel
    by_cases hlt : k < n
    · obtain ⟨b, off, rfl, hc0⟩ := h.at_ k hlt
      have hcx := (hB.cell (World.block_lt_of_cell? w _ hc0)).trans hc0
      have hs := hide (joinL_succ l k)
      have hio := intoL_append 4294967295 (joinL l k) (l k)
      have HIO := hide hio
      have hv := intoL_lt (l k) hlt32 (h.small k hlt).2
      have HI := hide (into_ok _ hlt32 (A k) (C k) (l k) wr (h.small k hlt).1 (h.small k hlt).2 ((h.text k hlt).below hB (Nat.le_refl _)))
      have HV := hide hv
      clear hio hv hc0
      generalize intoL 4294967295 (joinL l k) = x at *
      go_wp2_with fail
      refine HI.out.mono ?_
      rintro e w1 ⟨rfl, hB1⟩
      go_wp2
      go_roundw
      case rel => exact ⟨k + 1, by omega, by go_num, by rw [hs.out, HIO.out], hB.trans (hB1.mono hB.size), by rw [hs.out, HIO.out]; exact HV.out⟩
      case measure => simp [intOf]; omega
    · have hkn : k = n := by omega
      subst hkn
      have HS : Hid (sumL (joinL l k) = notN (intoL 4294967295 (joinL l k))) := hide (sumL_not _)
      have hnn := u32not _ hlt32
      generalize intoL 4294967295 (joinL l k) = x at *
      go_wp2
      go_ret
      exact ⟨by rw [HS.out] <;> rfl, hB⟩
end Go.Proofs.Ytbcdalgfceagcaa
