/- What the readings of the arguments give: a case: a rule, times, a place, pieces. -/
import Derived.Test.YtjgdegkjkedfcaaRows
import Derived.Test.YtjgdegkjkedfcaaKeepLawWhy
import Derived.ProofKit
import Derived.OpenShut
import Derived.ChangeOld
import Derived.Below
import Derived.Deep.Slices
import Derived.Deep.Fields
import Derived.ChangeArms
import Derived.ChangeSame
import Derived.Lib.SmallJoins
namespace Go.Proofs.Ytjgdegkjkedfcaa
open Go.Joins Go.ChangeShapes Go.WideShapes Go.ChangeAt Go.RowKit Go.Deep

theorem Try.own : ownKnob Try.prog.godebug = none := by kernel_rfl
theorem Try.laidOut : laidOutB Try.prog = true := by kernel_rfl

section
variable {H : Type} {enc : TypeId × Value → H} {w : World}

theorem addr_plain {w : World} {a : Addr} {u : Value} (h : w.cell? a = some u) : a.spot = none := by
  have := World.cell?_spot h; simpa using this

theorem i64_wf {n : Int} (h : (Lit.int .i64 n).wf = true) : -9223372036854775808 ≤ n ∧ n ≤ 9223372036854775807 := by
  simpa [Lit.wf, IntKind.min, IntKind.max, IntKind.signed, IntKind.bits] using h

/-- every field of every element of a slice of structs whose fields are one cell each: its cell, its reading -/
theorem read_fields {P : Program} {t e : TypeId} {fs : Array Field} {K fuel : Nat} {a : Option Addr} {len cap : Nat} {x : DataW H × List MemPlace} (ht : P.underlying t = some (.slice e)) (he : P.underlying e = some (.struct fs))
    (hone : ∀ (j : Nat) (f : Field), fs[j]? = some f → f.offset = j ∧ P.cellsOf f.type = 1 ∧ j < K) (hC : P.cellsOf e = K) (hK : 0 < K)
    (h : DataW.trod enc P w 0 (fun _ => true) true fuel t (Value.slice a len cap).cells.toList = some x) :
    len ≤ maxLen ∧ (a = none → len = 0 ∧ cap = 0) ∧ (∀ i, i < len → ∃ b off, a = some ⟨b, off, none⟩ ∧ ∀ (j : Nat) (f : Field), fs[j]? = some f → ∃ (v : Value) (y : DataW H × List MemPlace) (n : Nat),
      w.cell? ⟨b, off + (i * K + j), none⟩ = some v ∧ DataW.trod enc P w 0 (fun _ => true) true n f.type [v] = some y) := by
  rcases open_slice ht h with ⟨hcs, _⟩ | ⟨ad, l, c, m, n, D, Pl, hcs, _, hl, hm, hmm, _, hx⟩
  · simp only [Value.cells, List.cons.injEq, Value.slice.injEq, and_true] at hcs
    obtain ⟨rfl, rfl, rfl⟩ := hcs
    exact ⟨Nat.zero_le _, fun _ => ⟨rfl, rfl⟩, fun i hi => absurd hi (Nat.not_lt_zero _)⟩
  · simp only [Value.cells, List.cons.injEq, Value.slice.injEq, and_true] at hcs
    obtain ⟨rfl, rfl, rfl⟩ := hcs
    simp only [if_true] at hmm
    subst hmm
    refine ⟨Nat.le_trans hl hm, (fun e => by cases e), fun i hi => ?_⟩
    obtain ⟨cs', hc, htr⟩ := hx i (by omega)
    rw [hC] at hc
    obtain ⟨xs, n', _, _, _, hxs, hf⟩ := DataW.trod_struct he htr
    obtain ⟨_, hlen, hat⟩ := World.cells?_some hc
    obtain ⟨bl, off, spot⟩ := ad
    have hspot : spot = none := by
      obtain ⟨cs0, hc0, _⟩ := hx 0 (by omega)
      rw [hC] at hc0
      obtain ⟨_, hl0, hat0⟩ := World.cells?_some hc0
      have h0 := hat0 0 hK
      rw [List.getElem?_eq_getElem (by omega)] at h0
      have := addr_plain h0
      simpa [Addr.add] using this
    subst hspot
    refine ⟨bl, off, rfl, fun j f hj => ?_⟩
    obtain ⟨h1, h2, h3⟩ := hone j f hj
    have hcell := hat j h3
    rw [List.getElem?_eq_getElem (by omega), Go.Deep.add_add, add_plain] at hcell
    have hfj := hf j f hj
    have hjx : j < xs.length := by rw [hxs]; exact (Array.getElem?_eq_some_iff.1 hj).1
    rw [h1, h2, List.getElem?_eq_getElem hjx, List.drop_eq_getElem_cons (by omega), List.take_succ_cons, List.take_zero] at hfj
    exact ⟨_, _, _, hcell, hfj⟩


theorem read_pieces {fuel : Nat} {a : Option Addr} {len cap : Nat} {x : DataW H × List MemPlace}
    (h : DataW.trod enc Try.prog w 0 (fun _ => true) true fuel 22 (Value.slice a len cap).cells.toList = some x) :
    len ≤ maxLen ∧ (a = none → len = 0 ∧ cap = 0) ∧ ∃ l : List P3, len = l.length ∧ PcsAt w a l := by
  obtain ⟨h1, h2, h3⟩ := read_fields (K := 3) Try.underlying22 Try.underlying24 (by
    intro j f hj
    match j, hj with
    | 0, hj => simp at hj; subst hj; exact ⟨rfl, by kernel_rfl, by omega⟩
    | 1, hj => simp at hj; subst hj; exact ⟨rfl, by kernel_rfl, by omega⟩
    | 2, hj => simp at hj; subst hj; exact ⟨rfl, by kernel_rfl, by omega⟩) (by kernel_rfl) (by omega) h
  have hX : ∀ i, i < len → ∃ p : P3, ∃ b off, a = some ⟨b, off, none⟩ ∧ w.cell? ⟨b, off + i * 3, none⟩ = some (.int .i64 p.b) ∧ w.cell? ⟨b, off + i * 3 + 1, none⟩ = some (.int .i64 p.y) ∧ w.cell? ⟨b, off + i * 3 + 2, none⟩ = some (.int .i64 p.t) := by
    intro i hi
    obtain ⟨b, off, e, hf⟩ := h3 i hi
    obtain ⟨v0, y0, n0, c0, r0⟩ := hf 0 _ rfl
    obtain ⟨v1, y1, n1, c1, r1⟩ := hf 1 _ rfl
    obtain ⟨v2, y2, n2, c2, r2⟩ := hf 2 _ rfl
    obtain ⟨m0, e0, _⟩ := DataW.trod_int Try.underlying2 r0
    obtain ⟨m1, e1, _⟩ := DataW.trod_int Try.underlying2 r1
    obtain ⟨m2, e2, _⟩ := DataW.trod_int Try.underlying2 r2
    simp only [List.cons.injEq, and_true] at e0 e1 e2
    subst e0 e1 e2
    exact ⟨⟨m0, m1, m2⟩, b, off, e, by simpa using c0, by simpa [Nat.add_assoc] using c1, by simpa [Nat.add_assoc] using c2⟩
  obtain ⟨T, hT⟩ := choose_lt hX
  refine ⟨h1, h2, (List.range len).map T, by simp, fun j hj => ?_⟩
  have hj' : j < len := by simpa using hj
  have e : ((List.range len).map T).getD j default = T j := by simp [List.getD_eq_getElem?_getD, hj']
  rw [e]
  exact hT j hj'

theorem read_case {fuel : Nat} {cs : Array Value} {x : DataW H × List MemPlace} (hsz : cs.size = Try.prog.cellsOf 34)
    (h : DataW.trod enc Try.prog w 0 (fun _ => true) true fuel 34 (Value.agg cs).cells.toList = some x) :
    ∃ (r : R4) (now later at0 : Int) (a : Option Addr) (cap : Nat) (l : List P3), cs = caseV r now later at0 a l.length cap ∧ l.length ≤ maxLen ∧ (a = none → l.length = 0 ∧ cap = 0) ∧ PcsAt w a l ∧
      (-9223372036854775808 ≤ now ∧ now ≤ 9223372036854775807) ∧ (-9223372036854775808 ≤ later ∧ later ≤ 9223372036854775807) ∧ (-9223372036854775808 ≤ at0 ∧ at0 ≤ 9223372036854775807) ∧ l.length ≤ cap := by
  obtain ⟨l⟩ := cs
  have hC : Try.prog.cellsOf 34 = 8 := by kernel_rfl
  match l, hsz.trans hC with
  | [c0, c1, c2, c3, c4, c5, c6, c7], _ =>
    obtain ⟨xs, n, _, hx, _, hlen, hg⟩ := DataW.trod_struct Try.underlying34 h
    have g : ∀ (j : Nat), j < 5 → ∃ y, xs[j]? = some y := fun j hj => ⟨_, List.getElem?_eq_getElem (by rw [hlen]; exact hj)⟩
    obtain ⟨y0, e0⟩ := g 0 (by omega)
    obtain ⟨y1, e1⟩ := g 1 (by omega)
    obtain ⟨y2, e2⟩ := g 2 (by omega)
    obtain ⟨y3, e3⟩ := g 3 (by omega)
    obtain ⟨y4, e4⟩ := g 4 (by omega)
    have g0 := (hg 0 _ rfl).trans e0
    have g1 := (hg 1 _ rfl).trans e1
    have g2 := (hg 2 _ rfl).trans e2
    have g3 := (hg 3 _ rfl).trans e3
    have g4 := (hg 4 _ rfl).trans e4
    have k0 : Try.prog.cellsOf 29 = 4 := by kernel_rfl
    have k1 : Try.prog.cellsOf 2 = 1 := by kernel_rfl
    have k2 : Try.prog.cellsOf 3 = 1 := by kernel_rfl
    have k3 : Try.prog.cellsOf 22 = 1 := by kernel_rfl
    simp only [Value.cells] at g0 g1 g2 g3 g4
    obtain ⟨m1, q1, _, w1⟩ := DataW.trod_int Try.underlying2 g1
    obtain ⟨m2, q2, _, w2⟩ := DataW.trod_int Try.underlying2 g2
    obtain ⟨m3, q3, _, w3⟩ := DataW.trod_int Try.underlying3 g3
    simp [k1, k2] at q1 q2 q3
    subst q1 q2 q3
    obtain ⟨xs0, n0, _, hx0, _, hlen0, hg0⟩ := DataW.trod_struct Try.underlying29 g0
    have gg : ∀ (j : Nat), j < 4 → ∃ y, xs0[j]? = some y := fun j hj => ⟨_, List.getElem?_eq_getElem (by rw [hlen0]; exact hj)⟩
    obtain ⟨z0, f0⟩ := gg 0 (by omega)
    obtain ⟨z1, f1⟩ := gg 1 (by omega)
    obtain ⟨z2, f2⟩ := gg 2 (by omega)
    obtain ⟨z3, f3⟩ := gg 3 (by omega)
    have r0 := (hg0 0 _ rfl).trans f0
    have r1 := (hg0 1 _ rfl).trans f1
    have r2 := (hg0 2 _ rfl).trans f2
    have r3 := (hg0 3 _ rfl).trans f3
    obtain ⟨a0, u0, _⟩ := DataW.trod_int Try.underlying2 r0
    obtain ⟨a1, u1, _⟩ := DataW.trod_int Try.underlying2 r1
    obtain ⟨a2, u2, _⟩ := DataW.trod_int Try.underlying3 r2
    obtain ⟨a3, u3, _⟩ := DataW.trod_int Try.underlying2 r3
    simp [k0, k1, k2] at u0 u1 u2 u3
    subst u0 u1 u2 u3
    have hs : ∃ a' l' c', c7 = .slice a' l' c' := by
      rcases open_slice Try.underlying22 g4 with ⟨hcs, _⟩ | ⟨ad, l, c, m, n, D, Pl, hcs, _⟩
      · simp [k3] at hcs; exact ⟨_, _, _, hcs⟩
      · simp [k3] at hcs; exact ⟨_, _, _, hcs⟩
    obtain ⟨a', l', c', rfl⟩ := hs
    simp [k3] at g4
    have hcap : l' ≤ c' := by
      rcases open_slice Try.underlying22 g4 with ⟨hcs, _⟩ | ⟨ad, l, c, m, n, D, Pl, hcs, _, hle, _⟩
      · simp at hcs; omega
      · simp at hcs; omega
    obtain ⟨b1, b2, L, rfl, b4⟩ := read_pieces (a := a') (len := l') (cap := c') g4
    exact ⟨⟨a0, a1, a2, a3⟩, m1, m2, m3, a', c', L, rfl, b1, b2, b4, i64_wf w1, i64_wf w2, i64_wf w3, hcap⟩
end
end Go.Proofs.Ytjgdegkjkedfcaa
