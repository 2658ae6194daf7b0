/- The walk of known. -/
import Derived.Test.YthbknahmmegcdaaIxAddW
import Derived.Test.YthbknahmmegcdaaIxFind3
namespace Go.Proofs.Ythbknahmmegcdaa
open Go.RowKit

/-- an index that was made since a start -/
structure KSt (w wc : World) (g : Nat) (st : Int) (l : List S2) : Prop where
  lo : w.heap.size ≤ g
  bel : Below w.heap.size w wc
  ix : ∃ v, IxAt wc w.heap.size g st l v
theorem KSt.call {w wc w2 : World} {g : Nat} {st : Int} {l : List S2} (h : KSt w wc g st l) (hB : Below wc.heap.size wc w2) : KSt w w2 g st l := by
  obtain ⟨v, hv⟩ := h.ix
  exact ⟨h.lo, h.bel.trans (hB.mono h.bel.size), v, hv.call hB⟩
theorem KSt.new {w w0 : World} (hb : Below w.heap.size w w0) (st : Int) : KSt w (w0.alloc (.cells #[.int .i64 st, .slice none 0 0] 55)) w0.heap.size st [] :=
  ⟨hb.size, hb.alloc hb.size _, _, BoxI.new w0 st _, ⟨rfl, .inl ⟨rfl, rfl⟩⟩⟩
theorem own_lt {w : World} {base n : Nat} {T : TypeId} {v : Value} {xs : List Value} (h : w.ownsRow base T 2 v n xs) : ∀ r, v.ownBlock = some r → base ≤ r := fun r hr => (h.lt r hr).1
theorem Add_k {w wc : World} {g : Nat} {st : Int} {l : List S2} (h : KSt w wc g st l) (hst : st ≠ 0) (hn : l.length ≤ 1000000) (hlo : l.length ≠ 0 → 0 ≤ (lastS l).p) (s : S2) :
    Calls Try.prog 10 #[.pointer (some ⟨g, 0, none⟩), .agg (spotV s)] wc fun e w' => e = .returned (.tuple #[.bool (addB st l s), .int .i64 (addE l s)]) ∧ KSt w w' g st (addL st l s) := by
  obtain ⟨v, hv⟩ := h.ix
  refine (Add_ok hv hst hn hlo h.bel.size s).mono ?_
  rintro e w' ⟨v', rfl, h1, h2, _⟩
  exact ⟨rfl, h.lo, h2.below h.bel h.bel.size h.lo (own_lt hv.own), v', h1⟩

set_option maxHeartbeats 1600000 in
theorem known_ok (w : World) : Calls Try.prog 8 #[] w fun e w' => e = .returned (.bool true) ∧ Below w.heap.size w w' := by
  have K0 := hide (KSt.new (Below.refl w.heap.size w) 10)
  have C1 := hide (fun (wc : World) (h : KSt w wc w.heap.size 10 []) => Add_k h (by omega) (by simp) (by simp) ⟨0, 0⟩)
  have C2 := hide (fun (wc : World) (h : KSt w wc w.heap.size 10 [⟨0, 0⟩]) => Add_k h (by omega) (by simp) (by decide) ⟨3, 9⟩)
  have C3 := hide (fun (wc : World) (h : KSt w wc w.heap.size 10 [⟨0, 0⟩]) => Add_k h (by omega) (by simp) (by decide) ⟨5, 10⟩)
  have C4 : Hid (∀ (wc : World), KSt w wc w.heap.size 10 [⟨0, 0⟩, ⟨5, 10⟩] → Calls Try.prog 15 #[.pointer (some ⟨w.heap.size, 0, none⟩), .int .i64 4] wc fun e w' => e = .returned (.tuple #[.agg #[.int .i64 0, .int .i64 0], .bool true]) ∧ Below wc.heap.size wc w') := hide (fun wc h => by
    obtain ⟨v, hv⟩ := h.ix
    refine (Find_ok 4 hv (by omega) (by simp) (fun a b hab hb => ?_)).mono ?_
    · have : b = 0 ∨ b = 1 := by simp at hb; omega
      have : a = 0 ∨ a = 1 := by omega
      rcases ‹b = 0 ∨ b = 1› with rfl | rfl <;> rcases ‹a = 0 ∨ a = 1› with rfl | rfl <;> first | decide | omega
    · rintro e w' ⟨rfl, hB⟩
      exact ⟨rfl, hB⟩)
  have C5 : Hid (∀ (wc : World), KSt w wc w.heap.size 10 [⟨0, 0⟩, ⟨5, 10⟩] → Calls Try.prog 14 #[.pointer (some ⟨w.heap.size, 0, none⟩)] wc fun e w' => e = .returned (.int .i64 2) ∧ wc = w') := hide (fun wc h => by
    obtain ⟨v, hv⟩ := h.ix
    exact Len_ok hv (by omega))
  have e1 : addB 10 [] ⟨0, 0⟩ = true ∧ addE [] ⟨0, 0⟩ = 0 ∧ addL 10 [] ⟨0, 0⟩ = [⟨0, 0⟩] := by decide
  have e2 : addB 10 [⟨0, 0⟩] ⟨3, 9⟩ = false ∧ addE [⟨0, 0⟩] ⟨3, 9⟩ = 0 ∧ addL 10 [⟨0, 0⟩] ⟨3, 9⟩ = [⟨0, 0⟩] := by decide
  have e3 : addB 10 [⟨0, 0⟩] ⟨5, 10⟩ = true ∧ addE [⟨0, 0⟩] ⟨5, 10⟩ = 0 ∧ addL 10 [⟨0, 0⟩] ⟨5, 10⟩ = [⟨0, 0⟩, ⟨5, 10⟩] := by decide
  rw [e1.1, e1.2.1, e1.2.2] at C1
  rw [e2.1, e2.2.1, e2.2.2] at C2
  rw [e3.1, e3.2.1, e3.2.2] at C3
  unfold spotV at C1 C2 C3
  clear e1 e2 e3
  have HS : Hid (w.heap.size ≤ w.heap.size) := hide (Nat.le_refl _)
  go_enter Try.func8, Try.ntmps8
  go_wp2_with fail
  refine (New_ok 10 (by omega) (by omega) w).mono ?_
  rintro e w1 ⟨rfl, rfl⟩
  go_wp2_with fail
  refine (C1.out _ K0.out).mono ?_
  rintro e w2 ⟨rfl, h2⟩
  have K2 := hide h2
  clear h2
  go_wp2_with fail
  refine (C2.out _ K2.out).mono ?_
  rintro e w3 ⟨rfl, h3⟩
  have K3 := hide h3
  clear h3
  go_wp2_with fail
  refine (C3.out _ K3.out).mono ?_
  rintro e w4 ⟨rfl, h4⟩
  have K4 := hide h4
  clear h4
  go_wp2_with fail
  refine (C4.out _ K4.out).mono ?_
  rintro e w5 ⟨rfl, hB⟩
  have K5 := hide (K4.out.call hB)
  clear hB
  have K6 := hide (K5.out.call ((Below.refl w5.heap.size w5).alloc (Nat.le_refl _) (.cells #[.int .i64 0, .int .i64 0] 31)))
  go_wp2_with (go_at_call 14; refine (C5.out _ K6.out).mono ?_; rintro e w' ⟨rfl, rfl⟩)
  go_ret
  exact ⟨rfl, K6.out.bel⟩
end Go.Proofs.Ythbknahmmegcdaa
