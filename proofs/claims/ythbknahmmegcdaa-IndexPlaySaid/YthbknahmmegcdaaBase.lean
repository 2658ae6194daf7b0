/- Small lemmas on worlds, for the walks of this seat. -/
import Derived.Test.YthbknahmmegcdaaProg
import Derived.WalkKit
import Derived.KernelRfl
import Derived.Laws.AppendOwnNone
import Derived.Deep.QuietTactic
import Derived.BigQuiet
namespace Go.Proofs.Ythbknahmmegcdaa
open Go.RowKit

theorem hide {p : Prop} (h : p) : Hid p := h

theorem cell_one_new (w : World) (x : Value) (t : TypeId) : ∀ j u, [x][j]? = some u → (w.alloc (.cells #[x] t)).cell? ((⟨w.heap.size, 0, none⟩ : Addr).add j) = some u := by
  intro j u hj
  match j, hj with
  | 0, hj => simp at hj; subst hj; simp [Addr.add]

theorem one_cell (x : Value) (h : x.oneCell' = true) : ∀ u ∈ [x], u.oneCell' = true := by
  intro u hu; simp at hu; subst hu; exact h

/-- append to a row of the call's own, whatever the source: nil, empty or not -/
theorem wpList_append_src {P : Program} {w : World} {ops : Array Oper} {rest : List Oper} {o : Oper} {a : Act} {Q : Exit → Act → World → Prop} (hgd : o.guard = none) (s x : Operand) (t : TypeId)
    (ho : o.op = .call { callee := .builtin .append, args := #[s, x], argTypes := #[t, t] })
    (base : Nat) (e : TypeId) (i : TypeInfo) (z : Value) (size bytes : Nat) (ht : P.underlying t = some (.slice e)) (hi : P.info? e = some i) (hz : i.zero = some z)
    (hsize : i.size = size) (hby : i.bytes = bytes) (hzs : z.cells.size = size) (hsz : 0 < size)
    (v : Value) (n : Nat) (xs : List Value) (hs : a.eval s = v) (hown : w.ownsRow base e size v n xs)
    (ao : Option Addr) (m c : Nat) (news : List Value) (hx : a.eval x = .slice ao m c) (hl : news.length = m * size) (hnone : ao = none → m = 0 ∧ c = 0)
    (hnews : ∀ ad, ao = some ad → ∀ j u, news[j]? = some u → w.cell? (ad.add j) = some u) (h1 : ∀ u ∈ news, u.oneCell' = true)
    (h63 : n + m ≤ maxLen) (hbytes : (n + m) * bytes ≤ 140737488355328) (hbase : base ≤ w.heap.size)
    (h : ∀ v' w', w'.ownsRow base e size v' (n + m) (xs ++ news) → w.grownBy w' v.ownBlock → wpList P ops Q rest (a.put o.dst v') w') : wpList P ops Q (o :: rest) a w := by
  cases ao with
  | some ad => exact wpList_append_own w hgd s x t ho base e i z size bytes ht hi hz hsize hby hzs hsz v n xs hs hown ad m c news hx hl (hnews ad rfl) h1 h63 hbytes hbase (fun v' w' h1 h2 _ => h v' w' h1 h2)
  | none =>
    obtain ⟨rfl, rfl⟩ := hnone rfl
    have hn : news = [] := List.eq_nil_of_length_eq_zero (by simpa using hl)
    subst hn
    exact wpList_append_own_none hgd s x t ho base e i size ht hi v n xs hs hown hx (h v w (by simpa using hown) (World.grownBy.refl _ _))

/-- cells of one value each behind a slice's address -/
def CellsAt (w : World) (a : Option Addr) (n : Nat) (F : Nat → Value) : Prop :=
  ∀ j, j < n → ∃ b off, a = some ⟨b, off, none⟩ ∧ w.cell? ⟨b, off + j, none⟩ = some (F j)
/-- n values in order -/
def rowF (F : Nat → Value) (n : Nat) : List Value := (List.range n).map F
@[simp] theorem rowF_length (F : Nat → Value) (n : Nat) : (rowF F n).length = n := by simp [rowF]
theorem rowF_get (F : Nat → Value) (n j : Nat) (h : j < n) : (rowF F n)[j]? = some (F j) := by simp [rowF, h]
theorem rowF_one (F : Nat → Value) (n : Nat) (h : ∀ j, (F j).oneCell' = true) : ∀ u ∈ rowF F n, u.oneCell' = true := by
  intro u hu; simp only [rowF, List.mem_map] at hu; obtain ⟨j, _, rfl⟩ := hu; exact h j
theorem rowF_succ (F : Nat → Value) (n : Nat) : rowF F (n + 1) = rowF F n ++ [F n] := by simp [rowF, List.range_succ]
theorem addr_add0 (g j : Nat) : (⟨g, 0, none⟩ : Addr).add j = ⟨g, j, none⟩ := by unfold Addr.add; split <;> simp_all
theorem addr_add (g o j : Nat) : (⟨g, o, none⟩ : Addr).add j = ⟨g, o + j, none⟩ := by unfold Addr.add; split <;> simp_all
theorem CellsAt.src {w : World} {a : Option Addr} {n : Nat} {F : Nat → Value} (h : CellsAt w a n F) : ∀ ad, a = some ad → ∀ j u, (rowF F n)[j]? = some u → w.cell? (ad.add j) = some u := by
  intro ad had j u hj
  have hjn : j < n := by have := (List.getElem?_eq_some_iff.1 hj).1; simpa using this
  rw [rowF_get F n j hjn] at hj
  obtain ⟨b, off, e, hc⟩ := h j hjn
  rw [had] at e
  injection e with e
  subst e
  rw [addr_add, hc]; exact hj
theorem CellsAt.below {w w' : World} {a : Option Addr} {n : Nat} {F : Nat → Value} {B : Nat} (h : CellsAt w a n F) (hb : Below B w w') (hB : w.heap.size ≤ B) : CellsAt w' a n F := by
  intro j hj
  obtain ⟨b, off, rfl, hc⟩ := h j hj
  exact ⟨b, off, rfl, (hb.cell (by have := World.block_lt_of_cell? w _ hc; exact Nat.lt_of_lt_of_le this hB)).trans hc⟩
theorem CellsAt.le {w : World} {a : Option Addr} {n m : Nat} {F : Nat → Value} (h : CellsAt w a n F) (hm : m ≤ n) : CellsAt w a m F := fun j hj => h j (by omega)
theorem own_row {w : World} {base : Nat} {T : TypeId} {v : Value} {n : Nat} {F : Nat → Value} (h : w.ownsRow base T 1 v n (rowF F n)) (hn : 0 < n) :
    ∃ g cap, v = .slice (some ⟨g, 0, none⟩) n cap ∧ base ≤ g ∧ g < w.heap.size ∧ n ≤ cap ∧ CellsAt w (some ⟨g, 0, none⟩) n F := by
  have h' := h
  rcases h.2 with ⟨_, h0⟩ | ⟨g, cap, cur, rfl, h1, h2, h3, h4, h5, h6⟩
  · omega
  · refine ⟨g, cap, rfl, h1, (Array.getElem?_eq_some_iff.1 h2).1, h3, fun j hj => ⟨g, 0, rfl, ?_⟩⟩
    have := h'.cells (g := g) rfl j _ (rowF_get F n j hj)
    rwa [addr_add] at this
theorem own_any {w : World} {base : Nat} {T : TypeId} {v : Value} {n : Nat} {F : Nat → Value} (h : w.ownsRow base T 1 v n (rowF F n)) :
    ∃ ao cap, v = .slice ao n cap ∧ n ≤ cap ∧ (ao = none → n = 0 ∧ cap = 0) ∧ CellsAt w ao n F ∧ (∀ b off, ao = some ⟨b, off, none⟩ → base ≤ b ∧ b < w.heap.size ∧ off = 0) := by
  have h' := h
  rcases h.2 with ⟨rfl, h0⟩ | ⟨g, cap, cur, rfl, h1, h2, h3, h4, h5, h6⟩
  · exact ⟨none, 0, by rw [h0], by omega, fun _ => ⟨h0, rfl⟩, (fun j hj => by omega), (fun b off e => by cases e)⟩
  · refine ⟨_, cap, rfl, h3, (fun e => by cases e), fun j hj => ⟨g, 0, rfl, ?_⟩, fun b off e => by injection e with e; injection e with e1 e2; subst e1 e2; exact ⟨h1, (Array.getElem?_eq_some_iff.1 h2).1, rfl⟩⟩
    have := h'.cells (g := g) rfl j _ (rowF_get F n j hj)
    rwa [addr_add] at this
theorem CellsAt.grown {w w' : World} {a : Option Addr} {n : Nat} {F : Nat → Value} {r : Option Nat} (h : CellsAt w a n F) (hb : w.grownBy w' r) (hne : ∀ b off, a = some ⟨b, off, none⟩ → some b ≠ r) : CellsAt w' a n F := by
  intro j hj
  obtain ⟨b, off, rfl, hc⟩ := h j hj
  exact ⟨b, off, rfl, hb.cell hc (hne b off rfl)⟩
theorem belowDrewN {B : Nat} {a w : World} (h : Below B a w) (n : Nat) : Below B a (w.drewN n) := ⟨h.os, h.tape, h.output, h.size, h.block⟩
end Go.Proofs.Ythbknahmmegcdaa
