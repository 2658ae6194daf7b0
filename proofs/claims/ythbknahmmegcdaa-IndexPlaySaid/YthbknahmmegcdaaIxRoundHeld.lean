/- A region that draws its order, by the laws of OrdersHeld, in a round of a loop over a function. -/
import Derived.Test.YthbknahmmegcdaaRound
import Derived.Deep.RegionHeld3
namespace Go.Proofs.Ythbknahmmegcdaa
open Go.RowKit

theorem oper_wide {P : Program} {n : Nat} {o : Oper} {a : Act} {w : World} {K : Act → World → Prop} {Q : Exit → Act → World → Prop} (h : o.wp P a w K Q) : o.wpIn Fence.wide n P a w K Q := by
  unfold Oper.wp at h
  refine ⟨fun _ _ => trivial, ?_⟩
  show o.uponIn Fence.wide n P a K Q ((execOp a.eval o).run P w)
  generalize (execOp a.eval o).run P w = r at *
  cases r with
  | ok x w' =>
    cases x
    case enter f args =>
      have h2 : Calls P f args w' _ := h
      exact ⟨fun hd => by simp [Fence.wide] at hd, callsIn_wide.2 h2⟩
    case row row args =>
      have h2 : Rows P row args w' _ := h
      exact ⟨fun hd => by simp [Fence.wide] at hd, fun c cs _ => let ⟨v, w', r, s⟩ := h2 c cs; ⟨v, w', r, stepsIn_wide.2 s⟩⟩
    case round => exact False.elim h
    all_goals exact h
  | halt x w' => cases x <;> exact h
theorem wpOp_wide {P : Program} {n : Nat} {ops : Array Oper} {Q : Exit → Act → World → Prop} (hno : ¬ LetsOut Q) {i : Nat} {K : Act → World → Prop} {a : Act} {w : World} (h : wpOp P ops Q i K a w) : wpOpIn Fence.wide n P ops Q i K a w := by
  unfold wpOp at h
  unfold wpOpIn
  split
  · rename_i ho; simp only [ho] at h; exact h
  · rename_i o ho
    simp only [ho] at h
    split
    · rename_i hw
      simp only [hw, if_true] at h
      exact oper_wide (h.resolve_right (fun h2 => hno h2.2))
    · rename_i hw
      simp only [hw] at h
      exact ⟨fun _ _ => trivial, h⟩
theorem wpAny_wide {P : Program} {n : Nat} {md : Region.Mode} {ops : Array Oper} {Q : Exit → Act → World → Prop} (hno : ¬ LetsOut Q) : ∀ (fuel : Nat) (listed : Array Bool) (a : Act) (w : World),
    wpAny P md ops Q fuel listed a w → wpAnyIn Fence.wide n P md ops Q fuel listed a w
  | 0, _, _, _, h => h
  | fuel + 1, _, _, _, h => ⟨h.1, fun i hi => wpOpIn_mono (fun a w h' => wpAny_wide hno fuel _ a w h') (wpOp_wide hno (h.2 i hi))⟩
/-- the beginning, in a round -/
theorem region_round_held {P : Program} {n l0 id : Nat} {Q : Exit → Act → World → Prop} {a : Act} {w : World} {l : List Oper} (S : World → Prop) (hno : ¬ LetsOut Q) (hnd : noDefer l = true) (hm : P.follows .mixedOrders = true) (hS : S w.drew)
    (h : S w.drew → wpAnyH P .any l.toArray Q S l.length (Array.replicate l.length false) a w.drew) : (Code.region id l.toArray true).wpIn (Fence.wide.inRound l0) n P Q a w :=
  wpIn_region_any hm (wpAnyIn_round hnd _ _ _ _ (wpAny_wide hno _ _ _ _ (wpAny_of_held _ _ _ _ (h hS))))
end Go.Proofs.Ythbknahmmegcdaa
