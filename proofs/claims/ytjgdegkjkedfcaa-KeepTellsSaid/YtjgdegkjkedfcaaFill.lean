/- A region that draws its order, by an invariant: what each operation has yielded, once and for all orders. -/
import Derived.Test.YtjgdegkjkedfcaaProg
import Derived.WalkKit
import Derived.KernelRfl
import Derived.Orders
import Derived.Below
namespace Go.Proofs.Ytjgdegkjkedfcaa
open Go.RowKit

/-- a frame, the operations' slots filled: number k's slot d holds v k -/
def fillAct (a : Act) (v : Nat → Value) : List (Nat × Nat) → Act
  | [] => a
  | (k, d) :: r => (fillAct a v r).put (some d) (v k)
/-- the operations' slots -/
def slotsOf (ops : Array Oper) : List (Nat × Nat) := (List.range ops.size).map fun k => (k, ((ops[k]?).bind (·.dst)).getD 0)
/-- v, but x at k -/
def updF (v : Nat → Value) (k : Nat) (x : Value) (j : Nat) : Value := if j = k then x else v j

theorem put_put (a : Act) (d : Nat) (x y : Value) : (a.put (some d) x).put (some d) y = a.put (some d) y := by
  simp [Act.put, Array.setIfInBounds_setIfInBounds]
theorem fillAct_upd (a : Act) (v : Nat → Value) (k d : Nat) (x : Value) (r : List (Nat × Nat)) (h : (r.map Prod.snd).Nodup) (hk : (r.map Prod.fst).Nodup) (hm : (k, d) ∈ r) :
    (fillAct a v r).put (some d) x = fillAct a (updF v k x) r := by
  have hout : ∀ (s : List (Nat × Nat)), k ∉ s.map Prod.fst → fillAct a (updF v k x) s = fillAct a v s := by
    intro s hs
    induction s with
    | nil => rfl
    | cons p s ih =>
      obtain ⟨k', d'⟩ := p
      simp only [List.map_cons, List.mem_cons, not_or] at hs
      simp only [fillAct]
      rw [ih hs.2]
      have : updF v k x k' = v k' := by unfold updF; rw [if_neg (Ne.symm hs.1)]
      rw [this]
  induction r with
  | nil => cases hm
  | cons p r ih =>
    obtain ⟨k', d'⟩ := p
    simp only [List.map_cons, List.nodup_cons] at h hk
    simp only [fillAct]
    rcases List.mem_cons.1 hm with e | hm'
    · injection e with e1 e2
      subst e1 e2
      rw [put_put, hout r hk.1]
      have : updF v k x k = x := by unfold updF; rw [if_pos rfl]
      rw [this]
    · have hd : d' ≠ d := fun e => h.1 (by subst e; exact List.mem_map_of_mem (f := Prod.snd) hm')
      have hkk : k' ≠ k := fun e => hk.1 (by subst e; exact List.mem_map_of_mem (f := Prod.fst) hm')
      have : updF v k x k' = v k' := by unfold updF; rw [if_neg hkk]
      rw [this, ← ih h.2 hk.2 hm', Act.put_comm]
      intro e he
      injection he with he
      subst he
      intro e2
      injection e2 with e2
      exact hd e2.symm
theorem put_self (a : Act) (d : Nat) : a.put (some d) (a.tmps.getD d undef) = a := by
  obtain ⟨t, ds⟩ := a
  simp only [Act.put]
  congr 1
  apply Array.ext_getElem?
  intro j
  by_cases h : j = d
  · subst h
    by_cases hj : j < t.size
    · simp [hj]
    · simp [hj]
  · rw [Array.getElem?_setIfInBounds_ne (Ne.symm h)]
theorem fillAct_self (a : Act) (r : List (Nat × Nat)) (v : Nat → Value) (hv : ∀ k d, (k, d) ∈ r → v k = a.tmps.getD d undef) : fillAct a v r = a := by
  induction r with
  | nil => rfl
  | cons p r ih =>
    obtain ⟨k, d⟩ := p
    simp only [fillAct]
    rw [ih (fun k d h => hv k d (List.mem_cons_of_mem _ h)), hv k d (List.mem_cons_self), put_self]

theorem filter_le {p p' : Nat → Bool} : ∀ (l : List Nat), (∀ j ∈ l, p' j = true → p j = true) → (l.filter p').length ≤ (l.filter p).length
  | [], _ => Nat.le_refl _
  | x :: l, h => by
    have ih := filter_le l (fun j hj => h j (List.mem_cons_of_mem _ hj))
    have hx := h x List.mem_cons_self
    simp only [List.filter_cons]
    cases e1 : p' x <;> cases e2 : p x <;> simp_all <;> omega
theorem filter_lt {p p' : Nat → Bool} {i : Nat} (hi : p i = true) (hi' : p' i = false) : ∀ (l : List Nat), i ∈ l → (∀ j ∈ l, p' j = true → p j = true) → (l.filter p').length < (l.filter p).length
  | [], h, _ => by cases h
  | x :: l, hm, h => by
    have hle := filter_le l (fun j hj => h j (List.mem_cons_of_mem _ hj))
    have hx := h x List.mem_cons_self
    simp only [List.filter_cons]
    rcases List.mem_cons.1 hm with rfl | hm
    · rw [hi, hi']; simp; omega
    · have ih := filter_lt hi hi' l hm (fun j hj => h j (List.mem_cons_of_mem _ hj))
      cases e1 : p' x <;> cases e2 : p x <;> simp_all <;> omega

section
variable {P : Program} {ops : Array Oper} {Q : Exit → Act → World → Prop}

/-- what is asked of operation number k -/
def FillStep (P : Program) (ops : Array Oper) (Q : Exit → Act → World → Prop) (a : Act) (W : World) (ds : List (Nat × Nat)) (G : Nat → Value → World → Prop) (k : Nat) (o : Oper) : Prop :=
  ∀ (v : Nat → Value) (w : World), Below W.heap.size W w → (∀ e ∈ o.after, Region.binds .any e = true → G e.on (v e.on) w) →
    ∀ K' : Act → World → Prop, Hid (∀ x w', Below w.heap.size w w' → G k x w' → K' ((fillAct a v ds).put o.dst x) w') →
      if Region.wanted o (yielded ops (fillAct a v ds).tmps) = true then Oper.wp P o (fillAct a v ds) w K' Q else K' ((fillAct a v ds).put o.dst undef) w
/-- .. of all -/
def FillAll (P : Program) (ops : Array Oper) (Q : Exit → Act → World → Prop) (a : Act) (W : World) (ds : List (Nat × Nat)) (G : Nat → Value → World → Prop) : Nat → List Oper → Prop
  | _, [] => True
  | k, o :: r => FillStep P ops Q a W ds G k o ∧ FillAll P ops Q a W ds G (k + 1) r
theorem FillAll.get {a : Act} {W : World} {ds : List (Nat × Nat)} {G : Nat → Value → World → Prop} : ∀ (r : List Oper) (k j : Nat) (o : Oper), FillAll P ops Q a W ds G k r → r[j]? = some o → FillStep P ops Q a W ds G (k + j) o
  | [], _, _, _, _, h => by simp at h
  | o :: r, k, 0, o', h, e => by simp at e; subst e; exact h.1
  | o :: r, k, j + 1, o', h, e => by
    have := FillAll.get r (k + 1) j o' h.2 (by simpa using e)
    rwa [show k + 1 + j = k + (j + 1) by omega] at this

/-- **a region in whatever order, by what each operation yields** -/
theorem wp_region_fill {id : Nat} {a : Act} {w : World} (ds : List (Nat × Nat)) (G : Nat → Value → World → Prop) (hm : P.follows .mixedOrders = true)
    (hwf : (List.range ops.size).all (fun k => ((ops[k]?).map (fun o => o.after.all (fun e => decide (e.on < k)))).getD true) = true) (hds : slotsOf ops = ds) (hdst : ops.toList.all (fun o => o.dst.isSome) = true) (hnd : (ds.map Prod.snd).Nodup)
    (hG : ∀ k x w' w'', Below w'.heap.size w' w'' → G k x w' → G k x w'')
    (hstep : FillAll P ops Q a w.drew ds G 0 ops.toList)
    (hdone : ∀ v w', Below w.drew.heap.size w.drew w' → (∀ k, k < ops.size → G k (v k) w') → Q .normal (fillAct a v ds) w') : (Code.region id ops true).wp P Q a w := by
  have hfst : (ds.map Prod.fst).Nodup := by
    rw [← hds]
    simp only [slotsOf, List.map_map, Function.comp_def]
    rw [List.map_id']
    exact List.nodup_range
  have hmem : ∀ k o, ops[k]? = some o → ∃ d, o.dst = some d ∧ (k, d) ∈ ds := fun k o ho => by
    have hlt := (Array.getElem?_eq_some_iff.1 ho).1
    have h1 : o.dst.isSome = true := List.all_eq_true.1 hdst o (by rw [Array.mem_toList_iff]; exact Array.mem_of_getElem? ho)
    obtain ⟨d, hd⟩ := Option.isSome_iff_exists.1 h1
    refine ⟨d, hd, ?_⟩
    rw [← hds]
    simp only [slotsOf, List.mem_map, List.mem_range]
    exact ⟨k, hlt, by rw [ho]; simp [hd]⟩
  have hall : ∀ (listed : Array Bool), listed.size = ops.size → Region.ready .any ops listed = [] → ∀ k, k < ops.size → listed.getD k false = true := by
    intro listed hsz hr k
    induction k using Nat.strongRecOn with
    | ind k ih =>
      intro hk
      by_cases hl : listed.getD k true = true
      · have hk' : k < listed.size := by omega
        simpa [Array.getD, hk'] using hl
      · have hl' : listed.getD k true = false := by simpa using hl
        have hmemr : k ∈ Region.ready .any ops listed := by
          rw [mem_ready]
          refine ⟨hl', ops[k], by simp [hk], fun e he _ => ?_⟩
          have h1 := List.all_eq_true.1 hwf k (List.mem_range.2 hk)
          rw [Array.getElem?_eq_getElem hk, Option.map_some, Option.getD_some, Array.all_eq_true_iff_forall_mem] at h1
          have h2 := of_decide_eq_true (h1 e he)
          exact ih e.on h2 (by omega)
        rw [hr] at hmemr
        cases hmemr
  have main : ∀ (fuel : Nat) (listed : Array Bool) (v : Nat → Value) (w' : World), listed.size = ops.size → ((List.range ops.size).filter (fun i => !listed.getD i true)).length ≤ fuel →
      Below w.drew.heap.size w.drew w' → (∀ k, listed.getD k false = true → G k (v k) w') → wpAny P .any ops Q fuel listed (fillAct a v ds) w' := by
    intro fuel
    induction fuel with
    | zero =>
      intro listed v w' hsz hlen hB hv
      have hr : Region.ready .any ops listed = [] := by
        apply List.eq_nil_iff_forall_not_mem.2
        intro k hk
        rw [mem_ready] at hk
        obtain ⟨h1, o, ho, _⟩ := hk
        have hlt := (Array.getElem?_eq_some_iff.1 ho).1
        have : k ∈ (List.range ops.size).filter (fun i => !listed.getD i true) := by
          rw [List.mem_filter, List.mem_range]
          exact ⟨hlt, by rw [h1]; rfl⟩
        rw [List.eq_nil_of_length_eq_zero (Nat.le_zero.1 hlen)] at this
        cases this
      exact ⟨hr, hdone v w' hB (fun k hk => hv k (hall listed hsz hr k hk))⟩
    | succ fuel ih =>
      intro listed v w' hsz hlen hB hv
      refine ⟨fun hr => hdone v w' hB (fun k hk => hv k (hall listed hsz hr k hk)), fun i hi => ?_⟩
      have hi' := mem_ready.1 hi
      obtain ⟨h1, o, ho, hdep⟩ := hi'
      have hlt := (Array.getElem?_eq_some_iff.1 ho).1
      obtain ⟨d, hd, hdm⟩ := hmem i o ho
      have hst := FillAll.get ops.toList 0 i o hstep (by rw [Array.getElem?_toList]; exact ho)
      rw [Nat.zero_add] at hst
      refine wpOp_step ho (fun K' hK => hst v w' hB (fun e he hb => hv e.on (hdep e he hb)) K' (fun x w'' hB2 hGx => hK _ _ ?_))
      rw [hd, fillAct_upd a v i d x ds hnd hfst hdm]
      refine ih (listed.setIfInBounds i true) (updF v i x) w'' (by simp [hsz]) ?_ (hB.trans (hB2.mono hB.size)) ?_
      · refine Nat.le_of_lt_succ (Nat.lt_of_lt_of_le (filter_lt (p := fun i => !listed.getD i true) (i := i) (by simp only [h1]; rfl) ?_ _ (List.mem_range.2 hlt) ?_) hlen)
        · simp [Array.getD, hsz, hlt]
        · intro j _ hj
          by_cases hji : j = i
          · subst hji; simp [Array.getD, hsz, hlt] at hj
          · have := getD_set_ne (listed := listed) true (Ne.symm hji)
            simpa only [this] using hj
      · intro k hk
        by_cases hki : k = i
        · subst hki; simpa [updF] using hGx
        · rw [getD_set_ne false (Ne.symm hki)] at hk
          have : updF v i x k = v k := by unfold updF; rw [if_neg hki]
          rw [this]
          exact hG k _ w' w'' hB2 (hv k hk)
  refine wp_region_any hm ?_
  have h0 : a = fillAct a (fun k => a.tmps.getD (((ops[k]?).bind (·.dst)).getD 0) undef) ds := (fillAct_self a ds _ (fun k d h => by
    rw [← hds] at h
    simp only [slotsOf, List.mem_map, List.mem_range] at h
    obtain ⟨k', _, e⟩ := h
    injection e with e1 e2
    subst e1 e2
    rfl)).symm
  rw [h0]
  refine main ops.size _ _ _ (by simp) (Nat.le_trans (List.length_filter_le _ _) (by simp)) (Below.refl _ _) (fun k hk => by
    by_cases h : k < ops.size
    · simp [Array.getD, h] at hk
    · simp [Array.getD, h] at hk)
end
end Go.Proofs.Ytjgdegkjkedfcaa
