/- KeepHolds: never all go, and nothing at Below or above; behind what goes nothing goes; later, or by a rule that keeps less, no fewer go; at the time that is told more go, just ahead of it not: for every case; no condition. -/
import Derived.Test.YtjgdegkjkedfcaaKeepRead
import Derived.Test.YtjgdegkjkedfcaaKeepLawHolds
namespace Go.Proofs.Ytjgdegkjkedfcaa.keepHolds
open Go.ChangeShapes Go.WideShapes Go.ChangeAt Go.RowKit Go.Deep
set_option linter.unusedVariables false

set_option maxRecDepth 100000 in
theorem contract (H : Type) (enc : TypeId × Value → H) (W : World) (base : Nat) (args : Array Value) (ds gs : List (DataW H)) (before : List MemPlace)
    (hval0 : ∀ (j : Nat) t v, Try.f5.params[j]? = some t → args[j]? = some v → Value.okWide Try.prog W .any base t v)
    (hW : DataW.Whole enc Try.prog Try.f5.params.toList Rows.keepHoldsSpec.vars false W args.toList ds gs before) :
    Calls Try.prog 5 args W fun e W' => ∃ v, e = .returned v ∧ Rows.keepHoldsSpec.post enc Try.prog Try.f5 false true false false W args v W' := by
  have hval := hval0
  have hW' := hW
  obtain ⟨p, q, hA0, hV, rfl, hfz, hnd⟩ := hW
  have hA : DataW.TrodAll enc Try.prog W 0 (fun _ => true) true Try.f5.params.toList args.toList ds p := hA0
  rw [Try.params5] at hA hval
  obtain ⟨v0, vs0, d0, ds0, p0, q0, hargs, rfl, rfl, h0, r0⟩ := trodAll_cons hA
  obtain ⟨rfl, rfl, rfl⟩ := trodAll_nil r0
  obtain rfl : args = #[v0] := by cases args; simp_all
  obtain ⟨rfl, rfl⟩ := trodVars_none hV
  have k0 := h0
  have lt0 : ∀ x ∈ p0, x.block < W.heap.size := by obtain ⟨m, hm⟩ := k0; exact DataW.trod_lt m _ _ _ hm
  obtain ⟨cs0, rfl, hsz0⟩ := okWide_struct Try.underlying34 (hval 0 34 v0 rfl rfl)
  obtain ⟨r, now, later, at0, a, cap, l, rfl, hlen, hnil, hp, b1, b2, b3, hcap⟩ : ∃ (r : R4) (now later at0 : Int) (a : Option Addr) (cap : Nat) (l : List P3), cs0 = caseV r now later at0 a l.length cap ∧ l.length ≤ maxLen ∧ (a = none → l.length = 0 ∧ cap = 0) ∧ PcsAt W a l ∧ (-9223372036854775808 ≤ now ∧ now ≤ 9223372036854775807) ∧ (-9223372036854775808 ≤ later ∧ later ≤ 9223372036854775807) ∧ (-9223372036854775808 ≤ at0 ∧ at0 ≤ 9223372036854775807) ∧ l.length ≤ cap := by obtain ⟨fuel, hf⟩ := h0; exact read_case hsz0 hf
  clear hA0 hval0
  refine (holds_walk r now later at0 a cap l W (by unfold maxLen at hlen; omega) hcap hp).mono fun e W' ⟨he, bel⟩ => ?_
  subst he
  exact ⟨_, rfl, _, _, _, [], _, [], hW', trodAll_mk1 (shut_bool Try.underlying4 _), (trodAll_cons_mk (Below.trod Try.laidOut (by kernel_rfl) (of_decide_eq_true (by kernel_rfl)) k0 bel lt0) trodAll_mk0), rfl, bel.frame _, fun h => by cases h⟩

set_option maxRecDepth 100000 in
theorem lifted (os : Os) (started : os.Started) (H : Type) (enc : TypeId × Value → H) :
    ReturnsInHanded {} Try.checked os 5 .any (Rows.keepHoldsSpec.pre6 enc Try.prog Try.f5 Rows.keepHoldsRow.domain false) (Rows.keepHoldsSpec.post enc Try.prog Try.f5 false true false false) := by
  refine returnsInHanded_of_change (C := Try.checked) Try.own started (by kernel_rfl) Try.func5
    (ChangeSpec.witness6 (enc := enc) (C := Try.checked) false ⟨#[], #[.agg #[.int .i64 0, .int .i64 0, .int .i64 0, .int .i64 0, .int .i64 0, .int .i64 0, .int .i64 0, .slice none 0 0]], []⟩ 8 (by kernel_rfl) (by kernel_rfl) (by kernel_rfl) (by kernel_rfl)) ?_
  intro W base args ds gs before hval hW hcnd _
  exact contract H enc W base args ds gs before hval hW

theorem over : Rows.keepHoldsRow.holds Try.pinned (OpenSpec.ofChange Rows.keepHoldsSpec) :=
  OpenClaim.holds_of_wide 5 Try.f5 rfl rfl rfl rfl rfl rfl rfl ⟨rfl, rfl, rfl, rfl, rfl⟩ rfl rfl rfl rfl rfl (by kernel_rfl) Try.func5 (by kernel_rfl)
    (of_decide_eq_true (by kernel_rfl)) (by unfold Func.isWrapper; first | (rw [if_pos (by decide +kernel)]; kernel_rfl) | (rw [if_neg (by decide +kernel)]; exact ⟨rfl, rfl⟩))
    (fun os started H enc _ => lifted os started H enc)

/-- the statement -/
theorem proved : Rows.KeepHoldsSaid := over
#print axioms proved
end Go.Proofs.Ytjgdegkjkedfcaa.keepHolds
