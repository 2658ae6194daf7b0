/- Numbers as bytes: index.put. -/
import Derived.Test.YthbknahmmegcdaaIxIter
import Derived.Deep.AppendLies
namespace Go.Proofs.Ythbknahmmegcdaa
open Go.RowKit Go.Shelf

/-- bytes as values -/
def byteC (l : List Nat) : List Value := l.map fun c : Nat => .int .u8 (c : Nat)
theorem byteC_length (l : List Nat) : (byteC l).length = l.length := by simp [byteC]
theorem byteC_snoc (l : List Nat) (c : Nat) : byteC (l ++ [c]) = byteC l ++ [.int .u8 (c : Nat)] := by simp [byteC]
theorem byteC_one (l : List Nat) : ∀ u ∈ byteC l, u.oneCell' = true := by intro u hu; simp only [byteC, List.mem_map] at hu; obtain ⟨a, _, rfl⟩ := hu; rfl
/-- the n lowest bytes of a number, the lowest first -/
def numL (x : Nat) (n : Nat) : List Nat := (List.range n).map fun i => x / 256 ^ i % 256
theorem numL_succ (x n : Nat) : numL x (n + 1) = numL x n ++ [x / 256 ^ n % 256] := by simp [numL, List.range_succ]
@[simp] theorem numL_length (x n : Nat) : (numL x n).length = n := by simp [numL]
theorem numL_lt (x n : Nat) : ∀ c ∈ numL x n, c < 256 := by intro c hc; simp only [numL, List.mem_map] at hc; obtain ⟨i, _, rfl⟩ := hc; exact Nat.mod_lt _ (by omega)

/-- a row of bytes that has grown since w0: all but the first row is as it was -/
structure BRow (base : Nat) (w0 : World) (r0 : Option Nat) (v : Value) (l : List Nat) (w : World) : Prop where
  own : w.ownsRow base 5 1 v l.length (byteC l)
  grow : w0.grownBy w r0
  lies : v.ownBlock = r0 ∨ ∃ g, v.ownBlock = some g ∧ w0.heap.size ≤ g
theorem grown_refl (w : World) (r : Option Nat) : w.grownBy w r := ⟨rfl, rfl, rfl, Nat.le_refl _, fun _ _ _ => rfl⟩
theorem BRow.refl {base : Nat} {w : World} {v : Value} {l : List Nat} (h : w.ownsRow base 5 1 v l.length (byteC l)) : BRow base w v.ownBlock v l w := ⟨h, grown_refl _ _, .inl rfl⟩
theorem grown_trans {w0 w1 w2 : World} {r0 r1 : Option Nat} (h : w0.grownBy w1 r0) (k : w1.grownBy w2 r1) (hr : r1 = r0 ∨ ∃ g, r1 = some g ∧ w0.heap.size ≤ g) : w0.grownBy w2 r0 :=
  ⟨k.os.trans h.os, k.tape.trans h.tape, k.output.trans h.output, Nat.le_trans h.size k.size, fun j hj hne => (k.block j (Nat.lt_of_lt_of_le hj h.size) (fun e => by
    rcases hr with rfl | ⟨g, rfl, hg⟩
    · exact hne e
    · injection e with e; omega)).trans (h.block j hj hne)⟩
theorem BRow.trans {base : Nat} {w0 w1 w2 : World} {r0 : Option Nat} {v v' : Value} {l l' : List Nat} (h : BRow base w0 r0 v l w1) (k : BRow base w1 v.ownBlock v' l' w2) : BRow base w0 r0 v' l' w2 := by
  refine ⟨k.own, grown_trans h.grow k.grow h.lies, ?_⟩
  rcases k.lies with e | ⟨g, e, hg⟩
  · rcases h.lies with e2 | ⟨g, e2, hg⟩
    · exact .inl (e.trans e2)
    · exact .inr ⟨g, e.trans e2, hg⟩
  · exact .inr ⟨g, e, Nat.le_trans h.grow.size hg⟩
theorem BRow.app {base : Nat} {w0 W w1 : World} {r0 : Option Nat} {v : Value} {l : List Nat} {c g cap : Nat} {o : Obj} (h : BRow base w0 r0 v l W)
    (hown : w1.ownsRow base 5 1 (.slice (some ⟨g, 0, none⟩) (l.length + 1) cap) (l.length + 1) (byteC l ++ [.int .u8 (c : Nat)])) (hgrow : (W.alloc o).grownBy w1 v.ownBlock) (hat : v.ownBlock = some g ∨ g = (W.alloc o).heap.size) :
    BRow base w0 r0 (.slice (some ⟨g, 0, none⟩) (l.length + 1) cap) (l ++ [c]) w1 := by
  have h1 : BRow base W v.ownBlock (.slice (some ⟨g, 0, none⟩) (l.length + 1) cap) (l ++ [c]) w1 := by
    refine ⟨by rw [List.length_append, List.length_singleton, byteC_snoc]; exact hown, grown_trans (World.grownBy_alloc W o _) hgrow (.inl rfl), ?_⟩
    rcases hat with e | e
    · exact .inl e.symm
    · exact .inr ⟨g, rfl, by rw [e]; simp⟩
  exact h.trans h1

theorem Try.infoB : (Try.prog.info? 5).map (fun i => (i.zero, i.size, i.bytes)) = some (some (.int .u8 0), 1, 1) := by kernel_rfl
set_option maxHeartbeats 1600000 in
theorem put_ok (base : Nat) (v : Value) (l : List Nat) (x n : Nat) (hn : n ≤ 8) (hl : l.length ≤ 100000) (w : World) (hb : base ≤ w.heap.size) (h : w.ownsRow base 5 1 v l.length (byteC l)) :
    Calls Try.prog 35 #[v, .int .u64 (x : Nat), .int .i64 (n : Nat)] w fun e w' => ∃ v', e = .returned v' ∧ BRow base w v.ownBlock v' (l ++ numL x n) w' := by
  obtain ⟨i0, hi, hz0, hz1, hz2⟩ := info_parts Try.infoB
  have H0 := hide (BRow.refl h)
  generalize v.ownBlock = r0 at *
  go_enter Try.func35, Try.ntmps35
  go_wp2
  go_loopw [0, 1, 8] (fun v xv i wr => ∃ k : Nat, k ≤ n ∧ i = .int .i64 k ∧ xv = .int .u64 (x / 256 ^ k : Nat) ∧ Hid (BRow base w r0 v (l ++ numL x k) wr))
    (fun _ _ i _ => n - (intOf i).toNat)
  case atStart => exact ⟨0, Nat.zero_le _, rfl, by simp, by simpa [numL] using H0⟩
  case round =>
    obtain ⟨k, hk, rfl, rfl, HB⟩ := hrel
    by_cases hlt : k < n
    · have hs := numL_succ x k
      have hq : x / 256 ^ (k + 1) = x / 256 ^ k / 256 := by rw [Nat.pow_succ, Nat.div_div_eq_div_mul]
      have HS := hide hs
      have HQ := hide hq
      have hln : (l ++ numL x k).length ≤ 100010 := by rw [List.length_append, numL_length]; omega
      have hbs : base ≤ wr.heap.size := Nat.le_trans hb HB.out.grow.size
      clear hs hq h
      generalize numL x k = m at *
      generalize x / 256 ^ k = q at *
      have hcv : IntKind.u8.wrap (q : Int) = ((q % 256 : Nat) : Int) := by rw [IntKind.wrap_u8]; omega
      go_wp2_with (at_builtin; refine wpList_append_lies _ rfl _ _ 43 rfl base 5 i0 (.int .u8 0) 1 1 Try.underlying43 hi hz0 hz1 hz2 rfl (by decide) _ _ _ rfl (HB.out.own.alloc _) ⟨wr.heap.size, 0, none⟩ 1 1 [.int .u8 (q % 256 : Nat)] rfl rfl (cell_one_new _ _ _) (one_cell _ rfl) (by omega) (by unfold maxLen; omega) (by omega) (by simp; omega) _ rfl ?_; intro g cap w1 hown hgrow hat hlt1; have HA := hide (HB.out.app hown hgrow hat); clear hown hgrow hat hlt1)
      go_roundw
      case rel => exact ⟨k + 1, by omega, by go_num, by rw [HQ.out]; simp, by have h1 := HA.out; rw [List.length_append] at h1; rw [HS.out, ← List.append_assoc]; exact h1⟩
      case measure => simp [intOf]; omega
    · obtain rfl : k = n := by omega
      go_wp2
      go_ret
      exact ⟨_, rfl, HB.out⟩
end Go.Proofs.Ythbknahmmegcdaa
