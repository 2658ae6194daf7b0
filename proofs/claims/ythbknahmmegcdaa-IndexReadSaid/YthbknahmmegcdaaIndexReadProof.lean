/- IndexRead: any bytes are read as the index that they are, or refused, and they stay: for every bytes; no condition. -/
import Derived.Test.YthbknahmmegcdaaIxReadU
import Derived.Test.YthbknahmmegcdaaIxLawRead
namespace Go.Proofs.Ythbknahmmegcdaa.indexRead
open Go.ChangeShapes Go.WideShapes Go.ChangeAt Go.RowKit Go.Deep
set_option linter.unusedVariables false

set_option maxRecDepth 100000 in
theorem contract (H : Type) (enc : TypeId × Value → H) (W : World) (base : Nat) (args : Array Value) (ds gs : List (DataW H)) (before : List MemPlace)
    (hval0 : ∀ (j : Nat) t v, Try.f5.params[j]? = some t → args[j]? = some v → Value.okWide Try.prog W .any base t v)
    (hW : DataW.Whole enc Try.prog Try.f5.params.toList Rows.indexReadSpec.vars false W args.toList ds gs before) :
    Calls Try.prog 5 args W fun e W' => ∃ v, e = .returned v ∧ Rows.indexReadSpec.post enc Try.prog Try.f5 false true false false W args v W' := by
  have hval := hval0
  have hW' := hW
  obtain ⟨p, q, hA0, hV, rfl, hfz, hnd⟩ := hW
  have hA : DataW.TrodAll enc Try.prog W 0 (fun _ => true) true Try.f5.params.toList args.toList ds p := hA0
  rw [Try.params5] at hA hval
  obtain ⟨v0, vs0, d0, ds0, p0, q0, hargs, rfl, rfl, h0, r0⟩ := trodAll_cons hA
  obtain ⟨rfl, rfl, rfl⟩ := trodAll_nil r0
  obtain rfl : args = #[v0] := by cases args; simp_all
  obtain ⟨rfl, rfl⟩ := trodVars_none hV
  obtain ⟨a0, len0, cap0, rfl⟩ := okWide_slice Try.underlying43 (hval 0 43 v0 rfl rfl)
  have k0 := h0
  have lt0 : ∀ x ∈ p0, x.block < W.heap.size := by obtain ⟨m, hm⟩ := k0; exact DataW.trod_lt m _ _ _ hm
  obtain ⟨hlen0, hcap0, hnil0, sz, hsz, hs⟩ : len0 ≤ maxLen ∧ len0 ≤ cap0 ∧ (a0 = none → len0 = 0 ∧ cap0 = 0) ∧ ∃ sz : Nat → Nat, (∀ j, j < len0 → sz j < 256) ∧ CellsAt W a0 len0 (fun j => .int .u8 (sz j : Nat)) := by obtain ⟨fuel, hf⟩ := h0; exact read_u8s hf
  clear hA0 hval0
  unfold maxLen at hlen0
  have hs2 : CellsAt W a0 len0 (fun j => .int .u8 ((if j < len0 then sz j else 0 : Nat) : Nat)) := fun j hj => by obtain ⟨b, off, e, h1⟩ := hs j hj; exact ⟨b, off, e, by rw [h1]; show some (Value.int .u8 (sz j : Nat)) = some (Value.int .u8 ((if j < len0 then sz j else 0 : Nat) : Nat)); rw [if_pos hj]⟩
  have hf2 : ∀ j, (if j < len0 then sz j else 0) < 256 := fun j => by by_cases h : j < len0; (rw [if_pos h]; exact hsz j h); (rw [if_neg h]; omega)
  refine (read_walk a0 len0 cap0 (fun j => if j < len0 then sz j else 0) W (by omega) hcap0 hnil0 hf2 hs2).mono fun e W' ⟨he, bel⟩ => ?_
  subst he
  exact ⟨_, rfl, _, _, _, [], _, [], hW', trodAll_mk1 (shut_bool Try.underlying4 _), (trodAll_cons_mk (Below.trod Try.laidOut (by kernel_rfl) (of_decide_eq_true (by kernel_rfl)) k0 bel lt0) trodAll_mk0), rfl, bel.frame _, fun h => by cases h⟩

set_option maxRecDepth 100000 in
theorem lifted (os : Os) (started : os.Started) (H : Type) (enc : TypeId × Value → H) :
    ReturnsInHanded {} Try.checked os 5 .any (Rows.indexReadSpec.pre6 enc Try.prog Try.f5 Rows.indexReadRow.domain false) (Rows.indexReadSpec.post enc Try.prog Try.f5 false true false false) := by
  refine returnsInHanded_of_change (C := Try.checked) Try.own started (by kernel_rfl) Try.func5
    (ChangeSpec.witness6 (enc := enc) (C := Try.checked) false ⟨#[], #[.slice none 0 0], []⟩ 8 (by kernel_rfl) (by kernel_rfl) (by kernel_rfl) (by kernel_rfl)) ?_
  intro W base args ds gs before hval hW hcnd _
  exact contract H enc W base args ds gs before hval hW

theorem over : Rows.indexReadRow.holds Try.pinned (OpenSpec.ofChange Rows.indexReadSpec) :=
  OpenClaim.holds_of_wide 5 Try.f5 rfl rfl rfl rfl rfl rfl rfl ⟨rfl, rfl, rfl, rfl, rfl⟩ rfl rfl rfl rfl rfl (by kernel_rfl) Try.func5 (by kernel_rfl)
    (of_decide_eq_true (by kernel_rfl)) (by unfold Func.isWrapper; first | (rw [if_pos (by decide +kernel)]; kernel_rfl) | (rw [if_neg (by decide +kernel)]; exact ⟨rfl, rfl⟩))
    (fun os started H enc _ => lifted os started H enc)

/-- the statement -/
theorem proved : Rows.IndexReadSaid := over
#print axioms proved
end Go.Proofs.Ythbknahmmegcdaa.indexRead
