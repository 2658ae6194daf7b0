/- What the readings of the arguments give: bytes, a struct of three sums and two lengths. -/
import Derived.Test.YtbcdalgfceagcaaRows
import Derived.Test.YtbcdalgfceagcaaCrcOpen
import Derived.ProofKit
import Derived.OpenShut
import Derived.ChangeOld
import Derived.Below
import Derived.Deep.Slices
import Derived.Deep.Fields
import Derived.ChangeArms
import Derived.ChangeSame
import Derived.Lib.SmallJoins
namespace Go.Proofs.Ytbcdalgfceagcaa
open Go.Joins Go.ChangeShapes Go.WideShapes Go.ChangeAt Go.RowKit Go.Deep

theorem Try.own : ownKnob Try.prog.godebug = none := by kernel_rfl
theorem Try.laidOut : laidOutB Try.prog = true := by kernel_rfl

section
variable {H : Type} {enc : TypeId × Value → H} {w : World}

theorem addr_plain {w : World} {a : Addr} {u : Value} (h : w.cell? a = some u) : a.spot = none := by
  have := World.cell?_spot h; simpa using this

theorem u8_wf {n : Int} (h : (Lit.int .u8 n).wf = true) : 0 ≤ n ∧ n < 256 := by
  have : 0 ≤ n ∧ n ≤ 255 := by simpa [Lit.wf, IntKind.min, IntKind.max, IntKind.signed, IntKind.bits] using h
  omega
theorem u32_wf {n : Int} (h : (Lit.int .u32 n).wf = true) : 0 ≤ n ∧ n < 4294967296 := by
  have : 0 ≤ n ∧ n ≤ 4294967295 := by simpa [Lit.wf, IntKind.min, IntKind.max, IntKind.signed, IntKind.bits] using h
  omega
theorem i64_wf {n : Int} (h : (Lit.int .i64 n).wf = true) : -9223372036854775808 ≤ n ∧ n ≤ 9223372036854775807 := by
  simpa [Lit.wf, IntKind.min, IntKind.max, IntKind.signed, IntKind.bits] using h

/-- bytes in memory -/
theorem read_bytes {fuel : Nat} {a : Option Addr} {len cap : Nat} {d : DataW H} {ps : List MemPlace}
    (h : DataW.trod enc Try.prog w 0 (fun _ => true) true fuel 22 (Value.slice a len cap).cells.toList = some (d, ps)) :
    len ≤ maxLen ∧ len ≤ cap ∧ (a = none → len = 0 ∧ cap = 0) ∧ ∃ l : List Nat, len = l.length ∧ (∀ c ∈ l, c < 256) ∧ BytesAt w a l := by
  rcases open_slice1 Try.underlying22 (by kernel_rfl) h with ⟨hcs, hx⟩ | ⟨x, l, c, m, n, V, D, Pl, hcs, _, hl, hm, hmm, _, hcell⟩
  · simp [Value.cells] at hcs
    obtain ⟨rfl, rfl, rfl⟩ := hcs
    exact ⟨Nat.zero_le _, Nat.le_refl _, fun _ => ⟨rfl, rfl⟩, [], rfl, by simp, fun j hj => by simp at hj⟩
  · simp [Value.cells] at hcs
    obtain ⟨rfl, rfl, rfl⟩ := hcs
    simp only [if_true] at hmm
    subst hmm
    have hb : ∀ j, j < len → ∃ n : Nat, n < 256 ∧ w.cell? (x.add j) = some (.int .u8 n) := fun j hj => by
      obtain ⟨h1, h2⟩ := hcell j (by omega)
      obtain ⟨n, e, _, hwf⟩ := DataW.trod_int Try.underlying5 h2
      obtain ⟨h3, h4⟩ := u8_wf hwf
      simp only [List.cons.injEq, and_true] at e
      exact ⟨n.toNat, by omega, by rw [h1, e, Int.toNat_of_nonneg h3]⟩
    refine ⟨Nat.le_trans hl hm, hl, (fun e => by cases e), (List.range len).map (fun j => if h : j < len then (hb j h).choose else 0), by simp, ?_, ?_⟩
    · intro c hc
      simp only [List.mem_map, List.mem_range] at hc
      obtain ⟨j, hj, rfl⟩ := hc
      rw [dif_pos hj]
      exact (hb j hj).choose_spec.1
    · intro j hj
      have hj' : j < len := by simpa using hj
      have h0 := (hb 0 (by omega)).choose_spec.2
      obtain ⟨bl, off, spot⟩ := x
      have hspot : spot = none := by simpa [Addr.add] using addr_plain h0
      subst hspot
      refine ⟨bl, off, rfl, ?_⟩
      rw [← add_plain, (hb j hj').choose_spec.2]
      simp [List.getD_eq_getElem?_getD, hj']

theorem read_three {fuel : Nat} {cs : Array Value} {d : DataW H} {ps : List MemPlace} (hsz : cs.size = Try.prog.cellsOf 35)
    (h : DataW.trod enc Try.prog w 0 (fun _ => true) true fuel 35 (Value.agg cs).cells.toList = some (d, ps)) :
    ∃ (a b c : Nat) (N M : Int), a < 4294967296 ∧ b < 4294967296 ∧ c < 4294967296 ∧ (-9223372036854775808 ≤ N ∧ N ≤ 9223372036854775807) ∧ (-9223372036854775808 ≤ M ∧ M ≤ 9223372036854775807) ∧
      cs = #[.int .u32 a, .int .u32 b, .int .u32 c, .int .i64 N, .int .i64 M] := by
  obtain ⟨l⟩ := cs
  have hC : Try.prog.cellsOf 35 = 5 := by kernel_rfl
  match l, hsz.trans hC with
  | [c0, c1, c2, c3, c4], _ =>
    obtain ⟨xs, n, _, hx, _, hlen, hg⟩ := DataW.trod_struct Try.underlying35 h
    have g : ∀ (j : Nat), j < 5 → ∃ y, xs[j]? = some y := fun j hj => ⟨_, List.getElem?_eq_getElem (by rw [hlen]; exact hj)⟩
    obtain ⟨y0, e0⟩ := g 0 (by omega)
    obtain ⟨y1, e1⟩ := g 1 (by omega)
    obtain ⟨y2, e2⟩ := g 2 (by omega)
    obtain ⟨y3, e3⟩ := g 3 (by omega)
    obtain ⟨y4, e4⟩ := g 4 (by omega)
    have g0 := (hg 0 _ rfl).trans e0
    have g1 := (hg 1 _ rfl).trans e1
    have g2 := (hg 2 _ rfl).trans e2
    have g3 := (hg 3 _ rfl).trans e3
    have g4 := (hg 4 _ rfl).trans e4
    have k0 : Try.prog.cellsOf 23 = 1 := by kernel_rfl
    have k1 : Try.prog.cellsOf 2 = 1 := by kernel_rfl
    simp only [Value.cells] at g0 g1 g2 g3 g4
    obtain ⟨n0, q0, _, w0⟩ := DataW.trod_int Try.underlying23 g0
    obtain ⟨n1, q1, _, w1⟩ := DataW.trod_int Try.underlying23 g1
    obtain ⟨n2, q2, _, w2⟩ := DataW.trod_int Try.underlying23 g2
    obtain ⟨n3, q3, _, w3⟩ := DataW.trod_int Try.underlying2 g3
    obtain ⟨n4, q4, _, w4⟩ := DataW.trod_int Try.underlying2 g4
    simp [k0, k1] at q0 q1 q2 q3 q4
    subst q0 q1 q2 q3 q4
    have b0 := u32_wf w0
    have b1 := u32_wf w1
    have b2 := u32_wf w2
    refine ⟨n0.toNat, n1.toNat, n2.toNat, n3, n4, by omega, by omega, by omega, i64_wf w3, i64_wf w4, ?_⟩
    rw [Int.toNat_of_nonneg b0.1, Int.toNat_of_nonneg b1.1, Int.toNat_of_nonneg b2.1]
end
end Go.Proofs.Ytbcdalgfceagcaa
