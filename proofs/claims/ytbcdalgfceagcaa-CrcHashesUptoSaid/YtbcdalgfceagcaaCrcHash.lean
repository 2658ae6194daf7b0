/- Walks of crc.New and the methods of crc.Hash. -/
import Derived.Test.YtbcdalgfceagcaaCrcPartsPlain
import Derived.Test.YtbcdalgfceagcaaCrcRef
import Derived.Deep.DeepCutAuto
namespace Go.Proofs.Ytbcdalgfceagcaa
open Go.RowKit

/-- a sum that goes on, in memory -/
def HashAt (w : World) (g s n : Nat) : Prop := w.heap[g]? = some (.cells #[.int .u32 (s : Nat), .int .i64 (n : Nat)] 60 (0, 0))
theorem HashAt.lt {w : World} {g s n : Nat} (h : HashAt w g s n) : g < w.heap.size := (Array.getElem?_eq_some_iff.1 h).1
theorem HashAt.cell0 {w : World} {g s n : Nat} (h : HashAt w g s n) : w.cell? ⟨g, 0, none⟩ = some (.int .u32 (s : Nat)) := by rw [cell_of_row w g 0 _ _ _ h]; rfl
theorem HashAt.cell1 {w : World} {g s n : Nat} (h : HashAt w g s n) : w.cell? ⟨g, 1, none⟩ = some (.int .i64 (n : Nat)) := by rw [cell_of_row w g 1 _ _ _ h]; rfl
theorem HashAt.free {w : World} {g s n : Nat} (h : HashAt w g s n) (j : Nat) : w.frozen? ⟨g, j, none⟩ = false := frozen_of_row w g j _ _ h
theorem HashAt.set0 {w : World} {g s n : Nat} (h : HashAt w g s n) (s' : Nat) : HashAt (w.setCell ⟨g, 0, none⟩ (.int .u32 (s' : Nat))) g s' n := by
  unfold HashAt
  rw [setCell_eq_setRow w g 0 _ _ _ _ h]
  exact setRow_heap w g _ _ _ _ h
theorem HashAt.set1 {w : World} {g s n : Nat} (h : HashAt w g s n) (n' : Nat) : HashAt (w.setCell ⟨g, 1, none⟩ (.int .i64 (n' : Nat))) g s n' := by
  unfold HashAt
  rw [setCell_eq_setRow w g 1 _ _ _ _ h]
  exact setRow_heap w g _ _ _ _ h
theorem HashAt.new (w : World) (s n : Nat) : HashAt (w.alloc (.cells #[.int .u32 (s : Nat), .int .i64 (n : Nat)] 60)) w.heap.size s n := heap_alloc_new w _
theorem grown_set (w : World) (g j : Nat) (v : Value) : w.grownBy (w.setCell ⟨g, j, none⟩ v) (some g) :=
  ⟨rfl, rfl, rfl, by simp [World.setCell], fun k _ hk => Below.heap_setCell _ _ _ k (fun e => hk (by rw [e]))⟩
theorem grown_of_below {w w' : World} (h : Below w.heap.size w w') (row : Option Nat) : w.grownBy w' row := ⟨h.os, h.tape, h.output, h.size, fun i hi _ => h.block i hi⟩
theorem grown_trans {a b c : World} {row : Option Nat} (h : a.grownBy b row) (k : b.grownBy c row) : a.grownBy c row :=
  ⟨k.os.trans h.os, k.tape.trans h.tape, k.output.trans h.output, Nat.le_trans h.size k.size, fun i hi hr => (k.block i (Nat.lt_of_lt_of_le hi h.size) hr).trans (h.block i hi hr)⟩
theorem below_of_grown {B g : Nat} {w0 w w' : World} (hb : Below B w0 w) (hg : w.grownBy w' (some g)) (hBg : B ≤ g) (hBs : B ≤ w.heap.size) : Below B w0 w' :=
  below_grown (v := .slice (some ⟨g, 0, none⟩) 0 0) hb hg rfl hBg hBs
theorem HashAt.grown {w w' : World} {g s n : Nat} {row : Option Nat} (h : HashAt w g s n) (hg : w.grownBy w' row) (hne : some g ≠ row) : HashAt w' g s n := (hg.block g h.lt hne).trans h
theorem HashAt.below {w w' : World} {g s n : Nat} (h : HashAt w g s n) (hB : Below w.heap.size w w') : HashAt w' g s n := (hB.block g h.lt).trans h
theorem HashAt.not_row {w : World} {g s n : Nat} (h : HashAt w g s n) {base k : Nat} {v : Value} {xs : List Value} (hr : w.ownsRow base 5 1 v k xs) : v.ownBlock ≠ some g := by
  rcases hr.2 with ⟨rfl, _⟩ | ⟨b, cap, cur, rfl, _, hgb, _⟩
  · simp [Value.ownBlock]
  · intro e'
    obtain rfl : b = g := by simpa [Value.ownBlock] using e'
    have := (show w.heap[b]? = _ from h).symm.trans hgb
    simp at this

theorem New_ok (w : World) : Calls Try.prog 30 #[] w fun e w' => e = .returned (.pointer (some ⟨w.heap.size, 0, none⟩)) ∧ w' = w.alloc (.cells #[.int .u32 0, .int .i64 0] 60) := by
  go_enter Try.func30, Try.ntmps30
  go_wp2
  go_ret
  exact ⟨rfl, rfl⟩

theorem HSum_nil (w : World) : Calls Try.prog 34 #[.pointer none] w fun e w' => e = .returned (.int .u32 0) ∧ w = w' := by
  go_enter Try.func34, Try.ntmps34
  go_wp2
  go_ret
  exact ⟨rfl, rfl⟩
theorem HSum_ok {w : World} {g s n : Nat} (h : HashAt w g s n) : Calls Try.prog 34 #[.pointer (some ⟨g, 0, none⟩)] w fun e w' => e = .returned (.int .u32 (s : Nat)) ∧ w = w' := by
  have h0 := h.cell0
  clear h
  go_enter Try.func34, Try.ntmps34
  go_wp2
  go_ret
  exact ⟨rfl, rfl⟩
theorem HLen_nil (w : World) : Calls Try.prog 35 #[.pointer none] w fun e w' => e = .returned (.int .i64 0) ∧ w = w' := by
  go_enter Try.func35, Try.ntmps35
  go_wp2
  go_ret
  exact ⟨rfl, rfl⟩
theorem HLen_ok {w : World} {g s n : Nat} (h : HashAt w g s n) : Calls Try.prog 35 #[.pointer (some ⟨g, 0, none⟩)] w fun e w' => e = .returned (.int .i64 (n : Nat)) ∧ w = w' := by
  have h0 := h.cell1
  clear h
  go_enter Try.func35, Try.ntmps35
  go_wp2
  go_ret
  exact ⟨rfl, rfl⟩
theorem Reset_nil (w : World) : Calls Try.prog 32 #[.pointer none] w fun e w' => e = .returned (.int .i64 1) ∧ w = w' := by
  go_enter Try.func32, Try.ntmps32
  go_wp2
  go_ret
  exact ⟨rfl, rfl⟩
theorem Reset_ok {w : World} {g s n : Nat} (h : HashAt w g s n) : Calls Try.prog 32 #[.pointer (some ⟨g, 0, none⟩)] w fun e w' => e = .returned (.int .i64 0) ∧ HashAt w' g 0 0 ∧ w.grownBy w' (some g) := by
  have h0 := h.cell0
  have h1 := h.cell1
  have f0 := h.free 0
  have f1 := h.free 1
  have H0 := hide ((h.set0 0).set1 0)
  have HG := hide (grown_trans (grown_set w g 0 (.int .u32 ((0 : Nat) : Int))) (grown_set _ g 1 (.int .i64 ((0 : Nat) : Int))))
  clear h
  go_enter Try.func32, Try.ntmps32
  go_wp2
  go_ret
  exact ⟨rfl, H0.out, HG.out⟩
theorem Copy_nil (w : World) : Calls Try.prog 33 #[.pointer none] w fun e w' => e = .returned (.pointer none) ∧ w = w' := by
  go_enter Try.func33, Try.ntmps33
  go_wp2
  go_ret
  exact ⟨rfl, rfl⟩
theorem Copy_ok {w : World} {g s n : Nat} (h : HashAt w g s n) : Calls Try.prog 33 #[.pointer (some ⟨g, 0, none⟩)] w fun e w' => e = .returned (.pointer (some ⟨w.heap.size, 0, none⟩)) ∧ HashAt w' w.heap.size s n ∧ Below w.heap.size w w' := by
  have h0 := h.cell0
  have h1 := h.cell1
  have H0 := hide (HashAt.new w s n)
  have HB := hide ((Below.refl w.heap.size w).alloc (Nat.le_refl _) (.cells #[.int .u32 (s : Nat), .int .i64 (n : Nat)] 60))
  clear h
  go_enter Try.func33, Try.ntmps33
  go_wp2
  go_ret
  exact ⟨rfl, H0.out, HB.out⟩

theorem more_more (s : Nat) (a b : List Nat) : moreL (moreL s a) b = moreL s (a ++ b) := by
  rw [moreL_not, moreL_not s a, moreL_not, intoL_append]
  have e : ∀ x, notN (notN x) = x := fun x => by rw [notN_eq, notN_eq, not_not]
  rw [e]

theorem Write_nil (w : World) (v : Value) : Calls Try.prog 31 #[.pointer none, v] w fun e w' => e = .returned (.int .i64 1) ∧ w = w' := by
  go_enter Try.func31, Try.ntmps31
  go_wp2
  go_ret
  exact ⟨rfl, rfl⟩

set_option maxHeartbeats 1600000 in
theorem Write_ok (a : Option Addr) (n c : Nat) (A : Nat → Option Addr) (C : Nat → Nat) (l : Nat → List Nat) (w : World) (g s m : Nat) (hs : s < 4294967296) (hn : n ≤ 9223372036854775807)
    (h : ∀ wr, w.grownBy wr (some g) → PartsAt wr a n A C l) (hg : HashAt w g s m) (hm : ∀ k, k ≤ n → m + (joinL l k).length ≤ 9223372036854775807) :
    Calls Try.prog 31 #[.pointer (some ⟨g, 0, none⟩), .slice a n c] w fun e w' => e = .returned (.int .i64 0) ∧ HashAt w' g (moreL s (joinL l n)) (m + (joinL l n).length) ∧ w.grownBy w' (some g) := by
  have HP := hide h
  have HM := hide hm
  have H0 : Hid (HashAt w g (moreL s (joinL l 0)) (m + (joinL l 0).length)) := hide (by
    have e1 : moreL s (joinL l 0) = s := by
      show moreL s [] = s
      rw [moreL_not]
      show notN (notN s) = s
      rw [notN_eq, notN_eq, not_not]
    rw [e1]
    exact hg)
  have HG0 := hide (grown_of_below (Below.refl w.heap.size w) (some g))
  have HS0 : Hid (moreL s (joinL l 0) < 4294967296) := hide (by
    show moreL s [] < 4294967296
    rw [moreL_not]
    exact notN_lt (notN_lt hs))
  clear h hm hg
  go_enter Try.func31, Try.ntmps31
  go_wp2
  go_loopw [11] (fun i wr => ∃ k : Nat, k ≤ n ∧ i = .int .i64 k ∧ Hid (HashAt wr g (moreL s (joinL l k)) (m + (joinL l k).length)) ∧ Hid (w.grownBy wr (some g)) ∧ Hid (moreL s (joinL l k) < 4294967296)) (fun i _ => n - (intOf i).toNat)
  case atStart => exact ⟨0, Nat.zero_le _, rfl, H0, HG0, HS0⟩
  case round =>
    obtain ⟨k, hk, rfl, HH, HG, HL⟩ := hrel
    by_cases hlt : k < n
    · have HPk := hide (HP.out wr HG.out)
      obtain ⟨b, off, rfl, hc0⟩ := HPk.out.at_ k hlt
      have HJ : Hid (moreL (moreL s (joinL l k)) (l k) = moreL s (joinL l (k + 1))) := hide (by rw [more_more, joinL_succ])
      have HJL : Hid (m + (joinL l k).length + (l k).length = m + (joinL l (k + 1)).length) := hide (by rw [joinL_succ, List.length_append]; omega)
      have hw : IntKind.i64.wrap (((m + (joinL l k).length : Nat) : Int) + ((l k).length : Int)) = ((m + (joinL l k).length + (l k).length : Nat) : Int) := by
        have := HM.out (k + 1) (by omega)
        have := HJL.out
        rw [IntKind.wrap_i64]
        omega
      have HML := hide (More_ok _ HL.out (A k) (C k) (l k) wr (HPk.out.small k hlt).1 (HPk.out.small k hlt).2 (HPk.out.text k hlt))
      have HLT : Hid (moreL (moreL s (joinL l k)) (l k) < 4294967296) := hide (by rw [moreL_not]; exact notN_lt (intoL_lt _ (notN_lt HL.out) (HPk.out.small k hlt).2))
      have h0 := HH.out.cell0
      generalize moreL (moreL s (joinL l k)) (l k) = s2 at *
      generalize moreL s (joinL l k) = s1 at *
      generalize m + (joinL l k).length = m1 at *
      generalize hlk : (l k).length = lk at *
      have HLK := hide hlk
      clear hlk
      go_wp2_with fail
      refine HML.out.mono ?_
      rintro e w1 ⟨rfl, hB⟩
      have HH1 := hide (HH.out.below hB)
      have HG1 := hide (grown_trans HG.out (grown_of_below hB (some g)))
      have c0 := HH1.out.cell0
      have f0 := HH1.out.free 0
      have HH2 := hide (HH1.out.set0 s2)
      have HG2 := hide (grown_trans HG1.out (grown_set w1 g 0 (.int .u32 (s2 : Nat))))
      clear hB h0 hc0
      go_upto_region 7 with fail
      generalize w1.setCell ⟨g, 0, none⟩ (.int .u32 (s2 : Nat)) = w2 at *
      clear c0 f0
      have c1 := HH2.out.cell1
      have f1 := HH2.out.free 1
      have HH3 := hide (HH2.out.set1 (m1 + lk))
      have HG3 := hide (grown_trans HG2.out (grown_set w2 g 1 (.int .i64 ((m1 + lk : Nat) : Int))))
      go_wp2
      go_roundw
      case rel => exact ⟨k + 1, by omega, by go_num, by rw [← HJ.out, ← HJL.out]; exact HH3, HG3, by rw [← HJ.out]; exact HLT⟩
      case measure => simp [intOf] <;> omega
    · obtain rfl : k = n := by omega
      go_wp2
      go_ret
      exact ⟨rfl, HH.out, HG.out⟩
end Go.Proofs.Ytbcdalgfceagcaa
