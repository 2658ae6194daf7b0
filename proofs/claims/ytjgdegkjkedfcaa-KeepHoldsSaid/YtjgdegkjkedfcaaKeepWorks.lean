/- Walks of keep.Bytes, of num, pieces and works. -/
import Derived.Test.YtjgdegkjkedfcaaKeepNext
namespace Go.Proofs.Ytjgdegkjkedfcaa
open Go.RowKit

theorem num_ok (x : Int) (w : World) : Calls Try.prog 8 #[.int .i64 x] w fun e w' => e = .returned (.int .i64 x) ∧ w = w' := by
  go_enter Try.func8, Try.ntmps8
  go_wp2
  go_ret
  exact ⟨rfl, rfl⟩

theorem pieces_ok (w : World) : Calls Try.prog 26 #[] w fun e w' => e = .returned (.slice (some ⟨w.heap.size, 0, none⟩) 3 3) ∧
    w' = w.alloc (.cells #[.int .i64 0, .int .i64 100, .int .i64 5, .int .i64 10, .int .i64 100, .int .i64 9, .int .i64 20, .int .i64 50, .int .i64 12] 24) := by
  go_enter Try.func26, Try.ntmps26
  go_wp2
  go_ret
  exact ⟨rfl, rfl⟩
def pcs3 : List P3 := [⟨0, 100, 5⟩, ⟨10, 100, 9⟩, ⟨20, 50, 12⟩]
theorem pcs3_at (w : World) : PcsAt (w.alloc (.cells #[.int .i64 0, .int .i64 100, .int .i64 5, .int .i64 10, .int .i64 100, .int .i64 9, .int .i64 20, .int .i64 50, .int .i64 12] 24)) (some ⟨w.heap.size, 0, none⟩) pcs3 := by
  have hn := heap_alloc_new w (.cells #[.int .i64 0, .int .i64 100, .int .i64 5, .int .i64 10, .int .i64 100, .int .i64 9, .int .i64 20, .int .i64 50, .int .i64 12] 24)
  intro j hj
  have hj : j < 3 := hj
  refine ⟨w.heap.size, 0, rfl, ?_⟩
  match j, hj with
  | 0, _ => exact ⟨by rw [cell_of_row _ _ _ _ _ _ hn]; rfl, by rw [cell_of_row _ _ _ _ _ _ hn]; rfl, by rw [cell_of_row _ _ _ _ _ _ hn]; rfl⟩
  | 1, _ => exact ⟨by rw [cell_of_row _ _ _ _ _ _ hn]; rfl, by rw [cell_of_row _ _ _ _ _ _ hn]; rfl, by rw [cell_of_row _ _ _ _ _ _ hn]; rfl⟩
  | 2, _ => exact ⟨by rw [cell_of_row _ _ _ _ _ _ hn]; rfl, by rw [cell_of_row _ _ _ _ _ _ hn]; rfl, by rw [cell_of_row _ _ _ _ _ _ hn]; rfl⟩

set_option maxHeartbeats 1600000 in
theorem works_ok (w : World) : Calls Try.prog 10 #[] w fun e w' => e = .returned (.bool true) ∧ Below w.heap.size w w' := by
  have K1 := hide (fun (w : World) => Goes_ok ⟨150, 0, 0, 99⟩ 12 (some ⟨w.heap.size, 0, none⟩) 3 pcs3 _ (by decide) (pcs3_at w))
  have K2 := hide (fun (w : World) => Goes_ok ⟨0, 2, 0, 99⟩ 12 (some ⟨w.heap.size, 0, none⟩) 3 pcs3 _ (by decide) (pcs3_at w))
  have K3 := hide (fun (w : World) => Why_ok ⟨50, 0, 0, 10⟩ 12 1 (some ⟨w.heap.size, 0, none⟩) 3 pcs3 _ (by decide) (pcs3_at w))
  rw [show goesN ⟨150, 0, 0, 99⟩ 12 pcs3 = 1 by decide, show mayE ⟨150, 0, 0, 99⟩ 12 pcs3 = 0 by decide, show pcs3.length = 3 by decide] at K1
  rw [show goesN ⟨0, 2, 0, 99⟩ 12 pcs3 = 2 by decide, show mayE ⟨0, 2, 0, 99⟩ 12 pcs3 = 0 by decide, show pcs3.length = 3 by decide] at K2
  rw [show whyN ⟨50, 0, 0, 10⟩ 12 1 pcs3 = 5 by decide, show whyE ⟨50, 0, 0, 10⟩ 12 1 pcs3 = 0 by decide, show pcs3.length = 3 by decide] at K3
  have HA := hide (fun (w : World) => (Below.refl w.heap.size w).alloc (Nat.le_refl _) (.cells #[.int .i64 0, .int .i64 100, .int .i64 5, .int .i64 10, .int .i64 100, .int .i64 9, .int .i64 20, .int .i64 50, .int .i64 12] 24))
  unfold ruleV at *
  dsimp only at K1 K2 K3
  go_enter Try.func10, Try.ntmps10
  go_wp2_with fail
  refine (pieces_ok w).mono ?_
  rintro e w1 ⟨rfl, rfl⟩
  go_wp2_with fail
  refine (K1.out w).mono ?_
  rintro e w2 ⟨rfl, hB⟩
  have HB2 := hide ((HA.out w).trans (hB.mono (HA.out w).size))
  clear hB
  go_wp2_with fail
  refine (pieces_ok w2).mono ?_
  rintro e w3 ⟨rfl, rfl⟩
  go_wp2_with fail
  refine (K2.out w2).mono ?_
  rintro e w4 ⟨rfl, hB⟩
  have HB4 := hide (HB2.out.trans (((HA.out w2).trans (hB.mono (HA.out w2).size)).mono HB2.out.size))
  clear hB
  go_wp2_with fail
  refine (pieces_ok w4).mono ?_
  rintro e w5 ⟨rfl, rfl⟩
  go_wp2_with fail
  refine (K3.out w4).mono ?_
  rintro e w6 ⟨rfl, hB⟩
  have HB6 := hide (HB4.out.trans (((HA.out w4).trans (hB.mono (HA.out w4).size)).mono HB4.out.size))
  clear hB
  go_wp2_with (go_at_call 8; with_reducible refine (num_ok 0 _).mono ?_; rintro e w' ⟨rfl, rfl⟩)
  go_ret
  exact ⟨rfl, HB6.out⟩

set_option maxHeartbeats 1600000 in
theorem Bytes_ok (a : Option Addr) (c : Nat) (l : List P3) (w : World) (hn : l.length ≤ 9223372036854775807) (hp : PcsAt w a l) :
    Calls Try.prog 15 #[.slice a l.length c] w fun e w' => e = .returned (.tuple #[.int .i64 (if ordE l = 0 then bytesS l else 0), .int .i64 (ordE l)]) ∧ Below w.heap.size w w' := by
  obtain ⟨X, hX⟩ : ∃ X, X = (if ordE l = 0 then bytesS l else 0) := ⟨_, rfl⟩
  rw [← hX]
  have HO := hide (Ordered_ok a c l w hn hp)
  by_cases h0 : ordE l = 0
  · rw [if_pos h0] at hX
    rw [h0] at HO ⊢
    have h1 : l.length ≤ 4096 ∧ ordFrom (-1) l = true := by
      unfold ordE at h0
      split at h0
      · omega
      · split at h0
        · rename_i h2 h3
          exact ⟨by omega, h3⟩
        · omega
    have hpb := ordFrom_b h1.2
    have HPB := hide hpb
    have HBD := hide (fun k => bytesS_b (l := l.drop k) (fun p hp => hpb p (List.mem_of_mem_drop hp)))
    have HTK : Hid (∀ k, k < l.length → bytesS (l.take (k + 1)) = bytesS (l.take k) + (l.getD k default).y) := hide (fun k hk => by
      have e : ∀ (u v : List P3), bytesS (u ++ v) = bytesS u + bytesS v := by
        intro u v
        induction u with
        | nil => simp [bytesS]
        | cons p u ih => simp only [List.cons_append, bytesS, ih]; omega
      rw [List.take_add_one, e, List.getElem?_eq_getElem hk]
      simp [bytesS, List.getD_eq_getElem?_getD, hk])
    have HTB := hide (fun k => bytesS_b (l := l.take k) (fun p hp => hpb p (List.mem_of_mem_take hp)))
    have HTL : Hid (∀ k, (l.take k).length ≤ 4096) := hide (fun k => by simp; omega)
    have HT0 : Hid (0 = bytesS (l.take 0)) := hide rfl
    have HX : Hid (X = bytesS (l.take l.length)) := hide (by rw [hX, List.take_length])
    have HMEM : Hid (∀ k, k < l.length → l.getD k default ∈ l) := hide (fun k hk => by simp [List.getD_eq_getElem?_getD, hk])
    have HP := hide hp
    have hlen := h1.1
    clear h0 hX h1 hpb hp hn
    generalize hnn : l.length = n at *
    have HNN := hide hnn
    clear hnn
    go_enter Try.func15, Try.ntmps15
    go_wp2_with fail
    refine HO.out.mono ?_
    rintro e w1 ⟨rfl, hB1⟩
    have HB1 := hide hB1
    clear hB1
    go_wp2
    go_loopw [5, 7, 15] (fun s p i wr => ∃ (k : Nat) (S : Int), k ≤ n ∧ i = .int .i64 k ∧ s = .int .i64 S ∧ Hid (S = bytesS (l.take k)) ∧ Hid (Below w.heap.size w wr)) (fun _ _ i _ => n - (intOf i).toNat)
    case atStart => exact ⟨0, 0, by omega, rfl, rfl, HT0, HB1⟩
    case round =>
      obtain ⟨k, S, hk, rfl, rfl, HS, HB⟩ := hrel
      by_cases hlt : k < n
      · have hb := HTB.out k
        have hb2 := HTL.out k
        rw [← HS.out] at hb
        have hy := (HPB.out _ (HMEM.out k hlt)).2.1
        have hS := HTK.out k hlt
        rw [← HS.out] at hS
        obtain ⟨blk, off, rfl, c0, c1, c2⟩ := (HP.out.below HB.out (Nat.le_refl _)) k (by rw [HNN.out]; exact hlt)
        generalize l.getD k default = pc at *
        obtain ⟨b, y, t⟩ := pc
        dsimp only at c0 c1 c2 hy hS
        have hw1 : IntKind.i64.wrap (S + y) = S + y := by rw [IntKind.wrap_i64]; omega
        have HSS := hide hS
        have HBA := hide (HB.out.alloc HB.out.size (.cells #[.int .i64 b, .int .i64 y, .int .i64 t] 24))
        clear hS
        go_wp2
        go_roundw
        case rel => exact ⟨k + 1, S + y, by omega, by go_num, by go_num, hide HSS.out.symm, HBA⟩
        case measure => simp [intOf] <;> omega
      · obtain rfl : k = n := by omega
        have HV := hide (show X = S by rw [HX.out, HS.out])
        go_wp2
        go_ret2
        exact ⟨by rw [HV.out] <;> rfl, HB.out⟩
  · rw [if_neg h0] at hX
    subst hX
    have hne : (ordE l != 0) = true := by simpa using h0
    generalize ordE l = E at *
    clear h0 hp hn
    generalize l.length = n at *
    go_enter Try.func15, Try.ntmps15
    go_wp2_with fail
    refine HO.out.mono ?_
    rintro e w1 ⟨rfl, hB1⟩
    go_wp2
    go_ret2
    exact ⟨rfl, hB1⟩
end Go.Proofs.Ytjgdegkjkedfcaa
