/- A region that draws its order and only reads, in a round of a loop over a function: by one walk. -/
import Derived.Test.YthbknahmmegcdaaProg
import Derived.Sort.BigQuietIn
import Derived.RangeFuncCalls
import Derived.TacticsIn
import Derived.KernelRfl
import Derived.StillTail
import Derived.BigQuiet
namespace Go.Proofs.Ythbknahmmegcdaa
open Go.RowKit

/-- no operation is a defer statement -/
def noDefer (ops : List Oper) : Bool := ops.all (fun o => match o.op with | .defer _ => false | _ => true)
theorem noDefer_get {ops : List Oper} (h : noDefer ops = true) {i : Nat} {o : Oper} (hi : ops.toArray[i]? = some o) : ∀ c, o.op ≠ .defer c := by
  intro c e
  have hm : o ∈ ops := by
    rw [List.getElem?_toArray] at hi
    exact List.mem_of_getElem? hi
  have := List.all_eq_true.1 h o hm
  rw [e] at this
  cases this
theorem wpOpIn_round {P : Program} {n l0 i : Nat} {ops : List Oper} {Q : Exit → Act → World → Prop} {K K' : Act → World → Prop} {a : Act} {w : World} (hnd : noDefer ops = true)
    (h : wpOpIn Fence.wide n P ops.toArray Q i K a w) (hk : ∀ a w, K a w → K' a w) : wpOpIn (Fence.wide.inRound l0) n P ops.toArray Q i K' a w := by
  unfold wpOpIn at h ⊢
  cases hi : ops.toArray[i]? with
  | none => rw [hi] at h; exact hk _ _ h
  | some o =>
    rw [hi] at h
    dsimp only at h ⊢
    split
    · rename_i hw
      rw [if_pos hw] at h
      have h2 := Oper.wpIn_mono hk h
      have e : Oper.semAt (Fence.wide.inRound l0).round a.eval o = Oper.semAt Fence.wide.round a.eval o := by
        rw [Fence.inRound_round]
        exact Oper.semAt_some l0 _ o (noDefer_get hnd hi)
      have h3 := h2.2
      rw [← e] at h3
      exact ⟨h2.1, h3⟩
    · rename_i hw
      rw [if_neg hw] at h
      exact ⟨h.1, hk _ _ h.2⟩
theorem wpAnyIn_round {P : Program} {n l0 : Nat} {md : Region.Mode} {ops : List Oper} {Q : Exit → Act → World → Prop} (hnd : noDefer ops = true) : ∀ (fuel : Nat) (listed : Array Bool) (a : Act) (w : World),
    wpAnyIn Fence.wide n P md ops.toArray Q fuel listed a w → wpAnyIn (Fence.wide.inRound l0) n P md ops.toArray Q fuel listed a w
  | 0, _, _, _, h => h
  | fuel + 1, _, _, _, h => ⟨h.1, fun i hi => wpOpIn_round hnd (h.2 i hi) (fun a w h' => wpAnyIn_round hnd fuel _ a w h')⟩
/-- one walk of the lexical order serves every order, in a round -/
theorem region_quiet_round {P : Program} {n l0 id : Nat} {Q : Exit → Act → World → Prop} {a : Act} {w : World} {l : List Oper} (hnd : noDefer l = true) (hm : P.follows .mixedOrders = true) (hB : Region.lexB .any l.toArray = true)
    (h : wpQuietIn Fence.wide n P l.toArray (fun w' => ∃ n, w' = w.drewN n) (fun a' => ∀ w', (∃ n, w' = w.drewN n) → Q .normal a' w') l a) : (Code.region id l.toArray true).wpIn (Fence.wide.inRound l0) n P Q a w := by
  simp only [Region.lexB, Bool.and_eq_true] at hB
  refine wpIn_region_any hm (wpAnyIn_round hnd _ _ _ _ (wpAnyIn_of_quiet (C := fun w' => ∃ n, w' = w.drewN n) (Q := fun a' => ∀ w', (∃ n, w' = w.drewN n) → Q .normal a' w') rfl (fun _ w' hw' h => h w' hw') _ _ _ _ ⟨1, rfl⟩ ?_))
  have := wpAnyQIn_lex (F := Fence.wide) (n := n) (C := fun w' => ∃ n, w' = w.drewN n) (md := .any) hB.1 l 0 (Array.replicate l.toArray.size false) a (by simp) (by simpa using hB.2) (by simpa using h)
  simpa using this
theorem wpStill_of_quiet {P : Program} {ops : Array Oper} {w : World} {Q Q' : Act → Prop} (hQ : ∀ a, Q a → Q' a) : ∀ (l : List Oper) (a : Act), wpQuiet P ops (fun w' => w' = w) Q l a → wpStill P ops w Q' l a
  | [], a, h => hQ a h
  | o :: rest, a, h => by
    unfold wpQuiet at h
    unfold wpStill
    split
    · rename_i hw
      rw [if_pos hw] at h
      obtain ⟨v, h1, h2⟩ := h
      have h3 := h1 w rfl
      have h4 := wpStill_of_quiet hQ rest _ h2
      unfold Oper.quietAt at h3
      unfold Oper.still
      generalize (execOp a.eval o).run P w = r at *
      cases r with
      | ok n w' =>
        cases n <;> simp only [Oper.quietUpon] at h3 <;> simp only [Oper.stillUpon]
        case value u => exact ⟨h3.1, by rw [h3.2]; exact h4⟩
        case skip => exact ⟨h3.1, by rw [← h3.2]; exact h4⟩
        case enter f args => exact ⟨h3.1, v, h3.2, h4⟩
      | halt x w' => simp only [Oper.quietUpon] at h3
    · rename_i hw
      rw [if_neg hw] at h
      exact wpStill_of_quiet hQ rest _ h
/-- a region whose head only reads, in whatever order, and whose tail is forced -/
theorem region_tail {P : Program} {id : Nat} {Q : Exit → Act → World → Prop} {a : Act} {w : World} {l : List Oper} (k : Nat) (hm : P.follows .mixedOrders = true) (hB : Region.lexTailB .any l.toArray k = true)
    (h : wpQuiet P l.toArray (fun w' => w' = w.drew) (fun a' => wpList P l.toArray Q (l.drop k) a' w.drew) (l.take k) a) : (Code.region id l.toArray true).wp P Q a w :=
  wp_region_still_tail k hm hB (wpStill_of_quiet (fun _ h => h) _ _ h)
end Go.Proofs.Ythbknahmmegcdaa
