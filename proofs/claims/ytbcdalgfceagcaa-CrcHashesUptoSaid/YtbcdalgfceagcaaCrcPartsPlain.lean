/- Plain laws of CrcParts: xor of texts; the sum of two parts. -/
import Derived.Test.YtbcdalgfceagcaaCrcLawBursts
import Derived.Test.YtbcdalgfceagcaaCrcLawCarry
import Derived.Great.BuildSlice
namespace Go.Proofs.Ytbcdalgfceagcaa
open Go.RowKit

theorem sum_two (g : Nat) (a1 a2 : Option Addr) (c1 c2 : Nat) (l1 l2 : List Nat) (w : World) (hn1 : l1.length ≤ 9223372036854775807) (hn2 : l2.length ≤ 9223372036854775807) (hl1 : ∀ c ∈ l1, c < 256) (hl2 : ∀ c ∈ l2, c < 256) (hb1 : BytesAt w a1 l1) (hb2 : BytesAt w a2 l2)
    (hg1 : w.cell? ⟨g, 0, none⟩ = some (.slice a1 l1.length c1)) (hg2 : w.cell? ⟨g, 1, none⟩ = some (.slice a2 l2.length c2)) :
    Calls Try.prog 18 #[.slice (some ⟨g, 0, none⟩) 2 2] w fun e w' => e = .returned (.int .u32 (sumL (l1 ++ l2) : Nat)) ∧ Below w.heap.size w w' := by
  have h := Sum_ok (some ⟨g, 0, none⟩) 2 2 (fun i => if i = 0 then a1 else a2) (fun i => if i = 0 then c1 else c2) (fun i => if i = 0 then l1 else l2) w (by omega) ⟨fun i hi => by
      match i, hi with
      | 0, _ => exact ⟨_, _, rfl, hg1⟩
      | 1, _ => exact ⟨_, _, rfl, hg2⟩, fun i hi => by
      match i, hi with
      | 0, _ => exact hb1
      | 1, _ => exact hb2, fun i hi => by
      match i, hi with
      | 0, _ => exact ⟨hn1, hl1⟩
      | 1, _ => exact ⟨hn2, hl2⟩⟩
  refine h.mono ?_
  rintro e w' ⟨rfl, hB⟩
  exact ⟨by rw [show joinL (fun i => if i = 0 then l1 else l2) 2 = l1 ++ l2 by simp [joinL, List.range_succ]], hB⟩

/-- two texts, by xor -/
def xorL (a b : List Nat) : List Nat := List.zipWith (fun x y => x ^^^ y) a b
theorem xorL_length (a b : List Nat) (h : a.length = b.length) : (xorL a b).length = a.length := by simp [xorL, h]
theorem xorL_lt (a b : List Nat) (ha : ∀ c ∈ a, c < 256) (hb : ∀ c ∈ b, c < 256) : ∀ c ∈ xorL a b, c < 256 := by
  induction a generalizing b with
  | nil => simp [xorL]
  | cons x a ih => cases b with
    | nil => simp [xorL]
    | cons y b =>
      intro c hc
      simp only [xorL, List.zipWith_cons_cons, List.mem_cons] at hc
      rcases hc with rfl | hc
      · exact Nat.xor_lt_two_pow (n := 8) (ha x (by simp)) (hb y (by simp))
      · exact ih b (fun c h => ha c (by simp [h])) (fun c h => hb c (by simp [h])) c hc
theorem xorL_num (a b : List Nat) (h : a.length = b.length) (ha : ∀ c ∈ a, c < 256) (hb : ∀ c ∈ b, c < 256) : numL (xorL a b) = numL a ^^^ numL b := by
  induction a generalizing b with
  | nil => cases b <;> simp_all [xorL, numL]
  | cons x a ih => cases b with
    | nil => simp at h
    | cons y b =>
      have hx := ha x (by simp)
      have hy := hb y (by simp)
      have h1 := ih b (by simpa using h) (fun c h => ha c (by simp [h])) (fun c h => hb c (by simp [h]))
      simp only [xorL, List.zipWith_cons_cons, numL] at h1 ⊢
      rw [h1]
      have e1 := join_xor 8 (x ^^^ y) (numL a ^^^ numL b) (Nat.xor_lt_two_pow (n := 8) hx hy)
      have e2 := join_xor 8 x (numL a) hx
      have e3 := join_xor 8 y (numL b) hy
      rw [show (256 : Nat) = 2 ^ 8 by rfl, e1, e2, e3, mul_xor]
      simp only [Nat.xor_assoc]
      congr 1
      rw [← Nat.xor_assoc y, ← Nat.xor_assoc (2 ^ 8 * numL a), Nat.xor_comm y]
theorem xorL_getD (a b : List Nat) (h : a.length = b.length) (i : Nat) : (xorL a b).getD i 0 = a.getD i 0 ^^^ b.getD i 0 := by
  induction a generalizing b i with
  | nil => cases b <;> simp_all [xorL]
  | cons x a ih => cases b with
    | nil => simp at h
    | cons y b => cases i with
      | zero => simp [xorL]
      | succ i => simpa [xorL] using ih b (by simpa using h) i
/-- three texts of one length, by xor, have the xor of their sums -/
theorem xor_sum (a b c : List Nat) (h1 : b.length = a.length) (h2 : c.length = a.length) (ha : ∀ x ∈ a, x < 256) (hb : ∀ x ∈ b, x < 256) (hc : ∀ x ∈ c, x < 256) :
    sumL (xorL (xorL a b) c) = sumL a ^^^ sumL b ^^^ sumL c := by
  have e1 := xorL_length a b h1.symm
  have e2 : (xorL (xorL a b) c).length = a.length := by rw [xorL_length _ _ (by rw [e1, h2]), e1]
  have hab := xorL_lt a b ha hb
  unfold sumL
  rw [intoL_num _ _ (xorL_lt _ _ hab hc), intoL_num _ _ ha, intoL_num _ _ hb, intoL_num _ _ hc, e2, h1, h2, xorL_num _ _ (by rw [e1, h2]) hab hc, xorL_num _ _ h1.symm ha hb]
  simp only [stpN_xor]
  generalize stpN (8 * a.length) 4294967295 = o
  generalize stpN (8 * a.length) (numL a) = x
  generalize stpN (8 * a.length) (numL b) = y
  generalize stpN (8 * a.length) (numL c) = z
  apply Nat.eq_of_testBit_eq
  intro i
  simp only [Nat.testBit_xor]
  generalize Nat.testBit 4294967295 i = t1
  generalize o.testBit i = t2
  generalize x.testBit i = t3
  generalize y.testBit i = t4
  generalize z.testBit i = t5
  cases t1 <;> cases t2 <;> cases t3 <;> cases t4 <;> cases t5 <;> rfl
theorem Try.info22 : (Try.prog.info? 22).map (fun i => (i.zero, i.size, i.bytes)) = some (some (.slice none 0 0), 1, 24) := by kernel_rfl
theorem wp_build_one {o : Oper} {a : Act} {w : World} {K : Act → World → Prop} {Q : Exit → Act → World → Prop} (s : Nat) (ho : o.op = .buildSlice 40 1 #[(0, .tmp s)]) (ad : Option Addr) (l c : Nat) (hs : a.eval (.tmp s) = .slice ad l c)
    (h : K (a.put o.dst (.slice (some ⟨w.heap.size, 0, none⟩) 1 1)) (w.alloc (.cells #[.slice ad l c] 22))) : o.wp Try.prog a w K Q := by
  obtain ⟨ie, hi, hz0, hz1, hz2⟩ := info_parts Try.info22
  refine wp_buildSlice 40 22 1 #[(0, .tmp s)] ho #[.slice ad l c] ie (.slice none 0 0) Try.underlying40 hi hz0 (by rw [hz1]; omega) (by rw [hz1]; omega) ?_ h
  rw [hz1]
  have e : (#[(0, Operand.tmp s)].map fun (x : Nat × Operand) => (x.1, a.eval x.2)).toList = [(0, .slice ad l c)] := by simp [hs]
  show Instr.fill _ _ ((#[(0, Operand.tmp s)].map fun (x : Nat × Operand) => (x.1, a.eval x.2)).toList) = _
  rw [e]
  simp [Instr.fill, Value.cells, Array.range]
  apply Array.ext_getElem?
  intro j
  cases j <;> simp

end Go.Proofs.Ytbcdalgfceagcaa
