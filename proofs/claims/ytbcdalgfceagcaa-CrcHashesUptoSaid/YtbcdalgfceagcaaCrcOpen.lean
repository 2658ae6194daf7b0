/- Walks of crc.Open, num, works. -/
import Derived.Test.YtbcdalgfceagcaaCrcSeal
namespace Go.Proofs.Ytbcdalgfceagcaa
open Go.RowKit

theorem take_getD' (l : List Nat) (n j : Nat) (h : j < n) : (l.take n).getD j 0 = l.getD j 0 := by
  rw [List.getD_eq_getElem?_getD, List.getD_eq_getElem?_getD, List.getElem?_take_of_lt h]
theorem drop_getD (l : List Nat) (n j : Nat) : (l.drop n).getD j 0 = l.getD (n + j) 0 := by
  rw [List.getD_eq_getElem?_getD, List.getD_eq_getElem?_getD, List.getElem?_drop]
theorem BytesAt.take {w : World} {a : Option Addr} {l : List Nat} (h : BytesAt w a l) (n : Nat) (hn : n ≤ l.length) : BytesAt w a (l.take n) := by
  intro j hj
  have hj' : j < n := by simp at hj; omega
  obtain ⟨b, off, rfl, hc⟩ := h j (by omega)
  exact ⟨b, off, rfl, by rw [hc]; simp only [take_getD' l n j hj']⟩
theorem BytesAt.drop {w : World} {b off : Nat} {l : List Nat} (h : BytesAt w (some ⟨b, off, none⟩) l) (n : Nat) : BytesAt w (some ⟨b, off + n, none⟩) (l.drop n) := by
  intro j hj
  obtain ⟨b2, off2, e, hc⟩ := h (n + j) (by simp at hj; omega)
  injection e with e
  injection e with e1 e2
  subst e1 e2
  exact ⟨b, off + n, rfl, by rw [Nat.add_assoc, hc]; simp only [drop_getD]⟩

theorem belowDrew {B : Nat} {a w : World} (h : Below B a w) : Below B a w.drew := ⟨h.os, h.tape, h.output, h.size, h.block⟩
theorem sum_at (g : Nat) (a : Option Addr) (c : Nat) (l : List Nat) (w : World) (hn : l.length ≤ 9223372036854775807) (hl : ∀ c ∈ l, c < 256) (hb : BytesAt w a l) (hg : w.cell? ⟨g, 0, none⟩ = some (.slice a l.length c)) :
    Calls Try.prog 18 #[.slice (some ⟨g, 0, none⟩) 1 1] w fun e w' => e = .returned (.int .u32 (sumL l : Nat)) ∧ Below w.heap.size w w' := by
  have h := Sum_ok (some ⟨g, 0, none⟩) 1 1 (fun _ => a) (fun _ => c) (fun _ => l) w (by omega) ⟨fun i hi => by
    obtain rfl : i = 0 := by omega
    exact ⟨_, _, rfl, hg⟩, fun i _ => hb, fun i _ => ⟨hn, hl⟩⟩
  refine h.mono ?_
  rintro e w' ⟨rfl, hB⟩
  exact ⟨by rw [show joinL (fun _ => l) 1 = l by simp [joinL]], hB⟩

theorem Open_short (a : Option Addr) (c : Nat) (l : List Nat) (w : World) (hn : l.length < 4) :
    Calls Try.prog 12 #[.slice a l.length c] w fun e w' => e = .returned (.tuple #[.slice none 0 0, .int .i64 120]) ∧ w = w' := by
  generalize l.length = n at *
  have h1 : decide ((n : Int) - 4 < 0) = true := by simp; omega
  go_enter Try.func12, Try.ntmps12
  go_wp2
  go_ret2
  exact ⟨rfl, rfl⟩

theorem beh_at (s : Nat) (w : World) : BytesAt (w.alloc (.cells (rowF (byteV (behL s)) 4).toArray 5)) (some ⟨w.heap.size, 0, none⟩) (behL s) := by
  intro j hj
  refine ⟨w.heap.size, 0, rfl, ?_⟩
  have := World.news_of_block (heap_alloc_new w (.cells (rowF (byteV (behL s)) 4).toArray 5)) j _ (rowF_get (byteV (behL s)) 4 j hj)
  rwa [addr_add] at this

theorem strL_list (l : List Nat) : (strL l).toList = l.map (fun (c : Nat) => UInt8.ofNat c) := by
  rw [ByteArray.toList_eq, strL, strOfNums_data, List.map_map]
  rfl
theorem strL_eqb {a b : List Nat} (ha : ∀ c ∈ a, c < 256) (hb : ∀ c ∈ b, c < 256) : ((strL a).toList == (strL b).toList) = decide (a = b) := by
  by_cases h : a = b
  · subst h; simp
  · rw [decide_eq_false h, beq_eq_false_iff_ne]
    intro e
    apply h
    apply strL_inj ha hb
    rw [ByteArray.toList_eq, ByteArray.toList_eq] at e
    exact ByteArray.ext (Array.toList_inj.1 e)

set_option maxHeartbeats 3200000 in
theorem Open_four (b off : Nat) (c n : Nat) (l : List Nat) (w : World) (hn : l.length = n + 4) (hm : n ≤ 1000000) (hc : l.length ≤ c) (hl : ∀ c ∈ l, c < 256) (hb : BytesAt w (some ⟨b, off, none⟩) l) :
    Calls Try.prog 12 #[.slice (some ⟨b, off, none⟩) (n + 4) c] w fun e w' => (l.drop n = behL (sumL (l.take n)) → ∃ v, e = .returned (.tuple #[v, .int .i64 0]) ∧ OwnBytes w' w.heap.size v (l.take n)) ∧ (¬ l.drop n = behL (sumL (l.take n)) → e = .returned (.tuple #[.slice none 0 0, .int .i64 121])) ∧ Below w.heap.size w w' := by
  have hconv : ∀ w' : World, Below w.heap.size w w' → (convert 22 9 (.slice (some ⟨b, off + n, none⟩) 4 (c - n))).run Try.prog w' = .ok (.string (strL (l.drop n))) w' := fun w' hB => by
    have := conv_ok ((hb.below hB (Nat.le_refl _)).drop n) (c - n)
    rwa [show (l.drop n).length = 4 by simp; omega] at this
  have hlt : ∀ c ∈ l.take n, c < 256 := fun c hc => hl c (List.mem_of_mem_take hc)
  have htl : (l.take n).length = n := by simp; omega
  have hs := sumL_lt _ hlt
  have hsum : ∀ w' : World, Below w.heap.size w w' → w'.cell? ⟨w.heap.size, 0, none⟩ = some (.slice (some ⟨b, off, none⟩) n c) → Calls Try.prog 18 #[.slice (some ⟨w.heap.size, 0, none⟩) 1 1] w' fun e w2 => e = .returned (.int .u32 (sumL (l.take n) : Nat)) ∧ Below w'.heap.size w' w2 := fun w' hB hg =>
    sum_at w.heap.size (some ⟨b, off, none⟩) c (l.take n) w' (by omega) hlt ((hb.below hB (Nat.le_refl _)).take n (by omega)) (by rw [htl]; exact hg)
  have hcb : ∀ w' : World, (convert 22 9 (.slice (some ⟨w'.heap.size, 0, none⟩) 4 4)).run Try.prog (w'.alloc (.cells (rowF (byteV (behL (sumL (l.take n)))) 4).toArray 5)) = .ok (.string (strL (behL (sumL (l.take n))))) (w'.alloc (.cells (rowF (byteV (behL (sumL (l.take n)))) 4).toArray 5)) := fun w' => conv_ok (beh_at _ w') 4
  have HNE := hide (strL_eqb (fun c hc => hl c (List.mem_of_mem_drop hc)) (behL_lt hs) : ((strL (l.drop n)).toList == (strL (behL (sumL (l.take n)))).toList) = decide (l.drop n = behL (sumL (l.take n))))
  have HCONV := hide hconv
  obtain ⟨i0, hi, hz0, hz1, hz2⟩ := info_parts Try.info5
  have hsrc : ∀ w' : World, Below w.heap.size w w' → CellsAt w' (some ⟨b, off, none⟩) n (byteV (l.take n)) := fun w' hB => by
    have := (hb.below hB (Nat.le_refl _)).take n (by omega)
    unfold BytesAt at this
    rwa [htl] at this
  have HSRC := hide hsrc
  have HTL := hide htl
  have HSUM := hide hsum
  have HCB := hide hcb
  have HBE := hide (behind_ok _ hs)
  have h0 : (0 : Int) ≤ (n : Int) := by omega
  have h1 : (n : Int) ≤ (n : Int) + 4 := by omega
  have h2 : (n : Int) ≤ (c : Int) := by omega
  have hnc : ¬ c = n := by omega
  have hd : decide ((n : Int) < 0) = false := by simp
  generalize hP : l.drop n = d at *
  generalize hT : l.take n = tk at *
  clear hT hP hsrc hconv hsum hcb hlt htl hb hl hn
  generalize sumL tk = s at *
  generalize hS1 : strL d = S1 at *
  clear hS1
  generalize behL s = S2 at *
  go_enter Try.func12, Try.ntmps12
  go_wp2_with fail
  have hc1 := HCONV.out w.drew (belowDrew (Below.refl _ _))
  have hc2 := HCONV.out (w.alloc (.cells #[.slice (some ⟨b, off, none⟩) n c] 22)).drew (belowDrew ((Below.refl _ _).alloc (Nat.le_refl _) _))
  go_region_with (first
      | (go_at_call 18; refine (HSUM.out _ (belowDrew ((Below.refl _ _).alloc (Nat.le_refl _) _)) ?_).mono ?_; (show (w.alloc _).cell? _ = _; rw [World.cell?_alloc_at _ _ _ _ rfl]; rfl); rintro e w1 ⟨rfl, hB1⟩; have HBw := hide ((belowDrew ((Below.refl w.heap.size w).alloc (Nat.le_refl _) (.cells #[.slice (some ⟨b, off, none⟩) n c] 22))).trans (hB1.mono (by simp))); have hc3 := HCONV.out w1 HBw.out)
      | (go_at_call 36; refine (HBE.out _).mono ?_; rintro e w2 ⟨rfl, rfl⟩; have HBw2 := hide (HBw.out.alloc HBw.out.size (.cells (rowF (byteV S2) 4).toArray 5)); have hcv := HCB.out w1; have hc4 := HCONV.out _ HBw2.out))
  all_goals (
    generalize hq : (S1.toList == (strL S2).toList) = q
    have HQ := hide (hq.symm.trans HNE.out)
    clear hq
    cases q
    · have HD : Hid (¬ d = S2) := hide (of_decide_eq_false HQ.out.symm)
      go_wp2
      go_ret2
      exact ⟨fun h => absurd h HD.out, fun _ => rfl, HBw2.out⟩
    · have HD : Hid (d = S2) := hide (of_decide_eq_true HQ.out.symm)
      have hnone : (w1.alloc (.cells (rowF (byteV S2) 4).toArray 5)).ownsRow w.heap.size 5 1 (.slice none 0 0) 0 [] := ⟨rfl, .inl ⟨rfl, rfl⟩⟩
      have hsz := HBw2.out.size
      go_wp2_with (at_builtin; refine wpList_append_src rfl (.const (.slice none 0 0)) (.tmp 26) 22 rfl w.heap.size 5 i0 (.int .u8 0) 1 1 Try.underlying22 hi hz0 hz1 hz2 rfl (by decide) (.slice none 0 0) 0 [] rfl hnone (some ⟨b, off, none⟩) n c (rowF (byteV tk) n) rfl (by simp) (by intro h; cases h) (HSRC.out _ HBw2.out).src (rowF_one _ _ (byteV_one _)) (by unfold maxLen; omega) (by omega) hsz ?_; intro v4 w4 hown4 hgrow4)
      go_ret2
      exact ⟨fun _ => ⟨v4, rfl, by unfold OwnBytes; rw [HTL.out]; simpa using hown4⟩, fun h => absurd HD.out h, below_own HBw2.out hnone (Nat.le_refl _) hsz hgrow4⟩)
end Go.Proofs.Ytbcdalgfceagcaa
