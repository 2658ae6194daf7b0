/- Bytes as a string. -/
import Derived.Test.YthbknahmmegcdaaIxPut
import Derived.Laws.BytesArg
import Derived.Lib.SlBytesConst
namespace Go.Proofs.Ythbknahmmegcdaa
open Go.RowKit

def strL (l : List Nat) : ByteArray := strOfNums (l.map (fun (c : Nat) => (c : Int)))
theorem strL_inj {a b : List Nat} (ha : ∀ c ∈ a, c < 256) (hb : ∀ c ∈ b, c < 256) (h : strL a = strL b) : a = b := by
  have h1 : (a.map (fun (c : Nat) => UInt8.ofNat c)) = b.map (fun (c : Nat) => UInt8.ofNat c) := by
    have := congrArg (fun s => s.data.toList) h
    simpa [strL, strOfNums_data, List.map_map, Function.comp_def] using this
  apply List.ext_getElem?
  intro j
  have h2 := congrArg (fun l => l[j]?) h1
  simp only [List.getElem?_map] at h2
  cases e1 : a[j]? with
  | none => cases e2 : b[j]? with
    | none => rfl
    | some y => rw [e1, e2] at h2; simp at h2
  | some x => cases e2 : b[j]? with
    | none => rw [e1, e2] at h2; simp at h2
    | some y =>
      rw [e1, e2] at h2
      have hx := ha x (List.mem_of_getElem? e1)
      have hy := hb y (List.mem_of_getElem? e2)
      simp only [Option.map_some, Option.some.injEq] at h2
      have h3 := congrArg UInt8.toNat h2
      rw [UInt8.toNat_ofNat_of_lt' (by simpa using hx), UInt8.toNat_ofNat_of_lt' (by simpa using hy)] at h3
      rw [h3]
theorem conv_zero (w : World) (p : Option Addr) (c : Nat) : (convert 43 9 (.slice p 0 c)).run Try.prog w = .ok (.string ByteArray.empty) w := by
  rw [run_convert_bytes_string w 43 9 5 _ 0 c Try.underlying43 Try.underlying5 Try.underlying9]
  cases p <;> simp [Conv.bytesToString, loadCells]
  all_goals rfl
theorem conv_ok {w : World} {a : Option Addr} {l : List Nat} {n : Nat} (hn : l.length = n) (h : CellsAt w a n (fun j => .int .u8 (l.getD j 0 : Nat))) (c : Nat) : (convert 43 9 (.slice a n c)).run Try.prog w = .ok (.string (strL l)) w := by
  subst hn
  cases l with
  | nil => exact conv_zero w a c
  | cons x l =>
    obtain ⟨b, off, rfl, _⟩ := h 0 (by simp)
    refine run_convert_bytes_arg w 43 5 Try.underlying43 Try.underlying5 b off _ c _ (by simp) (fun i hi => ?_) 9 Try.underlying9
    obtain ⟨b2, off2, e, hc⟩ := h i hi
    injection e with e
    injection e with e1 e2
    subst e1 e2
    rw [hc]
    simp only [Option.some.injEq, Value.int.injEq, true_and]
    rw [List.getD_eq_getElem?_getD, List.getD_eq_getElem?_getD, List.getElem?_map]
    cases (x :: l)[i]? <;> rfl
theorem bytes_any2 {w : World} {base : Nat} {v : Value} {m : List Nat} (h : w.ownsRow base 5 1 v m.length (byteC m)) :
    ∃ a cap, v = .slice a m.length cap ∧ m.length ≤ cap ∧ CellsAt w a m.length (fun j => .int .u8 (m.getD j 0 : Nat)) ∧ (∀ b off, a = some ⟨b, off, none⟩ → base ≤ b) := by
  rcases h.2 with ⟨rfl, h0⟩ | ⟨b, cap, cur, rfl, hb, hbb, hle, _⟩
  · exact ⟨none, 0, by rw [h0], by omega, (fun j hj => by omega), fun b off e => by cases e⟩
  · refine ⟨_, cap, rfl, hle, (fun j hj => ⟨b, 0, rfl, ?_⟩), fun b' off e => by injection e with e; injection e with e1 e2; omega⟩
    have := World.ownsRow.cells h (g := b) rfl j (.int .u8 (m.getD j 0 : Nat)) (by simp [byteC, List.getD_eq_getElem?_getD, hj])
    rw [addr_add] at this
    exact this
end Go.Proofs.Ythbknahmmegcdaa
