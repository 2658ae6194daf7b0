/- Walks of Bytes, All, Cut, Copy of an index that is not there; of the law's none. -/
import Derived.Test.YthbknahmmegcdaaIxKnown
import Derived.RangeFuncNested
import Derived.RangeFuncBound
import Derived.RangeFuncCalls
import Derived.RangeFuncLeaves
import Derived.Shelf.Abstract
import Derived.Shelf.RegionOpen
import Derived.OwnWalkIn
import Derived.TacticsInMore
import Derived.LoopNIn
import Derived.LoopIn
namespace Go.Proofs.Ythbknahmmegcdaa
open Go.RowKit Go.Shelf
attribute [local go_sem] Oper.semAt_some

/-- what an index that is not there answers -/
structure NC (w : World) (a : Option Addr) : Prop where
  none_ : ∀ wr, Below w.heap.size w wr → Calls Try.prog 26 #[.pointer a] wr fun e w' => e = .returned (.bool true) ∧ wr = w'
  add : ∀ wr, Below w.heap.size w wr → ∀ (o p : Int), Calls Try.prog 10 #[.pointer a, .agg #[.int .i64 o, .int .i64 p]] wr fun e w' => e = .returned (.tuple #[.bool false, .int .i64 1]) ∧ Below wr.heap.size wr w'
  find : ∀ wr, Below w.heap.size w wr → ∀ x : Int, Calls Try.prog 15 #[.pointer a, .int .i64 x] wr fun e w' => e = .returned (.tuple #[.agg #[.int .i64 0, .int .i64 0], .bool false]) ∧ Below wr.heap.size wr w'
  at_ : ∀ wr, Below w.heap.size w wr → ∀ x : Int, Calls Try.prog 18 #[.pointer a, .int .i64 x] wr fun e w' => e = .returned (.tuple #[.agg #[.int .i64 0, .int .i64 0], .bool false]) ∧ Below wr.heap.size wr w'
  len : ∀ wr, Below w.heap.size w wr → Calls Try.prog 14 #[.pointer a] wr fun e w' => e = .returned (.int .i64 0) ∧ wr = w'
theorem NC.nil (w : World) : NC w none :=
  ⟨fun wr _ => none_nil wr, fun wr _ o p => Add_nil ⟨o, p⟩ wr, fun wr _ x => Find_nil x wr, fun wr _ x => At_nil x wr, fun wr _ => Len_nil wr⟩
theorem NC.zero {w : World} {g : Nat} {v : Value} (h : BoxI w g 0 v) : NC w (some ⟨g, 0, none⟩) :=
  ⟨fun wr hB => (none_ok (h.same hB)).mono (fun e w' h => h), fun wr hB o p => Add_zero ⟨o, p⟩ (h.same hB), fun wr hB x => Find_zero x (h.same hB), fun wr hB x => At_zero x (h.same hB), fun wr hB => Len_zero (h.same hB)⟩

theorem Bytes_none {w : World} {a : Option Addr} (h : NC w a) (wr : World) (hB : Below w.heap.size w wr) : Calls Try.prog 16 #[.pointer a] wr fun e w' => e = .returned (.tuple #[.slice none 0 0, .int .i64 1]) ∧ wr = w' := by
  have HN := hide (h.none_ wr hB)
  clear h hB
  go_enter Try.func16, Try.ntmps16
  go_wp2_with (go_at_call 26; refine HN.out.mono ?_; rintro e w' ⟨rfl, rfl⟩)
  go_ret2
  exact ⟨rfl, rfl⟩
theorem All_none {w : World} {a : Option Addr} (h : NC w a) (wr : World) (hB : Below w.heap.size w wr) : Calls Try.prog 13 #[.pointer a] wr fun e w' => e = .returned (.func (.func 31) #[] #[]) ∧ wr = w' := by
  have HN := hide (h.none_ wr hB)
  clear h hB
  go_enter Try.func13, Try.ntmps13
  go_wp2_with (go_at_call 26; refine HN.out.mono ?_; rintro e w' ⟨rfl, rfl⟩)
  go_ret
  exact ⟨rfl, rfl⟩
theorem Cut_none {w : World} {a : Option Addr} (h : NC w a) (x : Int) (wr : World) (hB : Below w.heap.size w wr) : Calls Try.prog 12 #[.pointer a, .int .i64 x] wr fun e w' => e = .returned (.int .i64 0) ∧ Below wr.heap.size wr w' := by
  have HA := hide ((Below.refl wr.heap.size wr).alloc (Nat.le_refl _) (.cells #[.int .i64 x] 3))
  have HN := hide (h.none_ _ (hB.trans (HA.out.mono hB.size)))
  clear h hB
  go_enter Try.func12, Try.ntmps12
  go_wp2_with (go_at_call 26; refine HN.out.mono ?_; rintro e w' ⟨rfl, rfl⟩)
  go_ret
  exact ⟨rfl, HA.out⟩
theorem Copy_none {w : World} {a : Option Addr} (h : NC w a) (wr : World) (hB : Below w.heap.size w wr) : Calls Try.prog 11 #[.pointer a] wr fun e w' => e = .returned (.pointer none) ∧ wr = w' := by
  have HN := hide (h.none_ wr hB)
  clear h hB
  go_enter Try.func11, Try.ntmps11
  go_wp2_with (go_at_call 26; refine HN.out.mono ?_; rintro e w' ⟨rfl, rfl⟩)
  go_ret
  exact ⟨rfl, rfl⟩
/-- an iterator that gives nothing -/
theorem All1_in (n : Nat) (l : Nat) (W : World) : CallsIn Fence.wide n Try.prog 31 #[.func (.yield l) #[] #[]] W fun e w' => (∃ v, e = .returned v) ∧ w' = W := by
  refine callsIn_wide.2 ?_
  go_enter Try.func31, Try.ntmps31
  go_wp2
  go_end0
  exact ⟨⟨_, rfl⟩, rfl⟩
theorem All1_stops (n : Nat) (Kp : World → World → Prop) (w : World) : SeqStopsK Fence.wide n Try.prog 31 #[] (fun s : S2 => #[.agg (spotV s)]) Kp (fun xs => xs = []) (fun _ => False) 0 w :=
  fun l J Jx W _ _ _ _ h0 => (All1_in n l W).mono (fun e w' h => ⟨h.1, .inl ⟨[], rfl, by rw [h.2]; exact h0⟩⟩)
end Go.Proofs.Ythbknahmmegcdaa
