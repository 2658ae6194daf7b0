/- CrcParts: parted anywhere, sums put together are the sum of the whole, and go on; sealed bytes are opened; by xor, three texts have the xor of their sums. -/
import Derived.Test.YtbcdalgfceagcaaCrcPartsPlain
import Derived.Test.YtbcdalgfceagcaaFill
import Derived.Deep.OwnRows
import Derived.Laws.Cover1
namespace Go.Proofs.Ytbcdalgfceagcaa
open Go.RowKit

set_option maxHeartbeats 3200000 in
set_option maxRecDepth 100000 in
theorem parts_big (a1 a2 a3 : Option Addr) (c1 c2 c3 n1 n2 n3 : Nat) (h : 20000 < n1 ∨ 20000 < n2 ∨ 20000 < n3) (w : World) :
    Calls Try.prog 6 #[.slice a1 n1 c1, .slice a2 n2 c2, .slice a3 n3 c3] w fun e w' => e = .returned (.bool true) ∧ Below w.heap.size w w' := by
  by_cases h1 : 20000 < n1
  · have d1 : decide ((20000 : Int) < (n1 : Int)) = true := decide_eq_true (by omega)
    have d1' : decide (20000 < n1) = true := decide_eq_true h1
    clear h h1
    go_enter Try.func6, Try.ntmps6
    go_wp2_with fail
    refine (works_ok _).mono ?_
    rintro e w' ⟨rfl, hB⟩
    go_wp2
    go_ret
    exact ⟨rfl, hB⟩
  · have d1 : decide ((20000 : Int) < (n1 : Int)) = false := decide_eq_false (by omega)
    have d1' : decide (20000 < n1) = false := decide_eq_false h1
    by_cases h2 : 20000 < n2
    · have d2 : decide ((20000 : Int) < (n2 : Int)) = true := decide_eq_true (by omega)
      have d2' : decide (20000 < n2) = true := decide_eq_true h2
      clear h h1 h2
      go_enter Try.func6, Try.ntmps6
      go_wp2_with fail
      refine (works_ok _).mono ?_
      rintro e w' ⟨rfl, hB⟩
      go_wp2
      go_ret
      exact ⟨rfl, hB⟩
    · have d2 : decide ((20000 : Int) < (n2 : Int)) = false := decide_eq_false (by omega)
      have d2' : decide (20000 < n2) = false := decide_eq_false h2
      have d3 : decide ((20000 : Int) < (n3 : Int)) = true := decide_eq_true (by omega)
      have d3' : decide (20000 < n3) = true := decide_eq_true (by omega)
      clear h h1 h2
      go_enter Try.func6, Try.ntmps6
      go_wp2_with fail
      refine (works_ok _).mono ?_
      rintro e w' ⟨rfl, hB⟩
      go_wp2
      go_ret
      exact ⟨rfl, hB⟩

theorem byteV_src {w w0 : World} {a : Option Addr} {l : List Nat} (h : BytesAt w0 a l) (hB : Below w0.heap.size w0 w) : ∀ ad, a = some ad → ∀ j u, (rowF (byteV l) l.length)[j]? = some u → w.cell? (ad.add j) = some u :=
  CellsAt.src (h.below hB (Nat.le_refl _))
theorem sum_pair (a1 a2 : Option Addr) (c1 c2 : Nat) (l1 l2 : List Nat) (w : World) (hn1 : l1.length ≤ 9223372036854775807) (hn2 : l2.length ≤ 9223372036854775807) (hl1 : ∀ c ∈ l1, c < 256) (hl2 : ∀ c ∈ l2, c < 256) (hb1 : BytesAt w a1 l1) (hb2 : BytesAt w a2 l2) :
    Calls Try.prog 18 #[.slice (some ⟨w.heap.size, 0, none⟩) 2 2] (w.alloc (.cells #[.slice a1 l1.length c1, .slice a2 l2.length c2] 22)) fun e w' => e = .returned (.int .u32 (sumL (l1 ++ l2) : Nat)) ∧ Below w.heap.size w w' := by
  have hA := (Below.refl w.heap.size w).alloc (Nat.le_refl _) (.cells #[.slice a1 l1.length c1, .slice a2 l2.length c2] 22)
  refine (sum_two w.heap.size a1 a2 c1 c2 l1 l2 _ hn1 hn2 hl1 hl2 (hb1.below hA (Nat.le_refl _)) (hb2.below hA (Nat.le_refl _)) ?_ ?_).mono ?_
  · rw [World.cell?_alloc_at _ _ _ _ rfl]; rfl
  · rw [World.cell?_alloc_at _ _ _ _ rfl]; rfl
  rintro e w' ⟨rfl, hB⟩
  exact ⟨rfl, hA.trans (hB.mono (by simp))⟩

theorem made_wb (w : World) (n : Nat) (hn : n ≤ maxLen) : WBytes (w.alloc (.cells (madeCells #[.int .u8 0] n) 5)) w.heap.size w.heap.size n (List.replicate n 0) := by
  unfold WBytes
  rw [List.length_replicate]
  refine ⟨by simp, .inr ⟨w.heap.size, n, _, rfl, Nat.le_refl _, heap_alloc_new w _, Nat.le_refl _, hn, by rw [size_madeCells, Nat.mul_one], ?_⟩⟩
  rw [toList_madeCells_one]
  have e := rowF_bytes (List.replicate n 0)
  rw [List.length_replicate] at e
  rw [e, List.map_replicate, Nat.mul_one, List.take_of_length_le (by simp)]
  rfl
/-- one byte of the three's xor -/
theorem xor_step {D X A B C : List Nat} {k n : Nat} (hA : A.length = n) (hB : B.length = n) (hC : C.length = n) (hX : X = xorL (xorL A B) C) (hD : D.length = n) (hk : k < n) (h : ∀ j, j < k → D.getD j 0 = X.getD j 0) :
    ∀ j, j < k + 1 → (D.set k (A.getD k 0 ^^^ B.getD k 0 ^^^ C.getD k 0)).getD j 0 = X.getD j 0 := by
  intro j hj
  by_cases e : j = k
  · subst e
    rw [hX, xorL_getD _ _ (by rw [xorL_length _ _ (by omega)]; omega), xorL_getD _ _ (by omega)]
    simp [List.getD_eq_getElem?_getD, hD, hk]
  · rw [← h j (by omega)]
    simp only [List.getD_eq_getElem?_getD]
    rw [List.getElem?_set_ne (by omega)]
theorem eq_of_getD {D X : List Nat} {n : Nat} (hD : D.length = n) (hX : X.length = n) (h : ∀ j, j < n → D.getD j 0 = X.getD j 0) : D = X := by
  apply List.ext_getElem (by omega)
  intro j h1 h2
  have := h j (by omega)
  simpa [List.getD_eq_getElem?_getD, h1, h2] using this

/-- a list of one text that the region has made -/
def HeldOne (w : World) (x v : Value) : Prop := ∃ g, x = .slice (some ⟨g, 0, none⟩) 1 1 ∧ w.cell? ⟨g, 0, none⟩ = some v
theorem HeldOne.mono {w w' : World} {x v : Value} (h : HeldOne w x v) (hB : Below w.heap.size w w') : HeldOne w' x v := by
  obtain ⟨g, h1, h2⟩ := h
  exact ⟨g, h1, (hB.cell (World.block_lt_of_cell? w _ h2)).trans h2⟩
theorem HeldOne.new (w : World) (v : Value) (T : TypeId) : HeldOne (w.alloc (.cells #[v] T)) (.slice (some ⟨w.heap.size, 0, none⟩) 1 1) v := ⟨_, rfl, by rw [World.cell?_alloc_at _ _ _ _ rfl]; rfl⟩

/-- a slice of a text, wherever it lies -/
def SlAt (w : World) (x : Value) (l : List Nat) (k c : Nat) : Prop := ∃ a, x = .slice a k c ∧ BytesAt w a l
theorem SlAt.mono {w w' : World} {x : Value} {l : List Nat} {k c : Nat} (h : SlAt w x l k c) (hB : Below w.heap.size w w') : SlAt w' x l k c := by
  obtain ⟨a, h1, h2⟩ := h
  exact ⟨a, h1, h2.below hB (Nat.le_refl _)⟩
def HeldSl (w : World) (x : Value) (l : List Nat) (k c : Nat) : Prop := ∃ v, HeldOne w x v ∧ SlAt w v l k c
theorem HeldSl.mono {w w' : World} {x : Value} {l : List Nat} {k c : Nat} (h : HeldSl w x l k c) (hB : Below w.heap.size w w') : HeldSl w' x l k c := by
  obtain ⟨v, h1, h2⟩ := h
  exact ⟨v, h1.mono hB, h2.mono hB⟩
theorem bytes_cut {w : World} {a : Option Addr} {l : List Nat} (h : BytesAt w a l) (c : Nat) : BytesAt w (if c = 0 then a else a.map (fun x => x.add 0)) l := by
  split
  · exact h
  · intro j hj
    obtain ⟨b, off, rfl, hc⟩ := h j hj
    exact ⟨b, off, by simp [Addr.add], hc⟩
set_option maxHeartbeats 3200000 in
set_option maxRecDepth 100000 in
theorem parts_walk (a1 a2 a3 : Option Addr) (c1 c2 c3 : Nat) (l1 l2 l3 : List Nat) (w : World) (m1 : l1.length ≤ 20000) (m2 : l2.length ≤ 20000) (m3 : l3.length ≤ 20000)
    (k1 : l1.length ≤ c1) (k2 : l2.length ≤ c2) (k3 : l3.length ≤ c3) (z1 : a1 = none → l1.length = 0 ∧ c1 = 0) (z2 : a2 = none → l2.length = 0 ∧ c2 = 0) (z3 : a3 = none → l3.length = 0 ∧ c3 = 0)
    (t1 : ∀ c ∈ l1, c < 256) (t2 : ∀ c ∈ l2, c < 256) (t3 : ∀ c ∈ l3, c < 256) (b1 : BytesAt w a1 l1) (b2 : BytesAt w a2 l2) (b3 : BytesAt w a3 l3) :
    Calls Try.prog 6 #[.slice a1 l1.length c1, .slice a2 l2.length c2, .slice a3 l3.length c3] w fun e w' => e = .returned (.bool true) ∧ Below w.heap.size w w' := by
  obtain ⟨i0, hi, hz0, hz1, hz2⟩ := info_parts Try.info5
  have S1 := hide (fun (w' : World) (hB : Below w.heap.size w w') => byteV_src b1 hB)
  have S2 := hide (fun (w' : World) (hB : Below w.heap.size w w') => byteV_src b2 hB)
  have hLt : ∀ c ∈ l1 ++ l2, c < 256 := fun c hc => by
    rcases List.mem_append.1 hc with hc | hc
    · exact t1 c hc
    · exact t2 c hc
  have K2 := hide (fun (w' : World) (hB : Below w.heap.size w w') => sum_pair a1 a2 c1 c2 l1 l2 w' (by omega) (by omega) t1 t2 (b1.below hB (Nat.le_refl _)) (b2.below hB (Nat.le_refl _)))
  have KA := hide (fun (w' : World) (hB : Below w.heap.size w w') => sum_one a1 c1 l1 w' (by omega) t1 (b1.below hB (Nat.le_refl _)))
  have KB := hide (fun (w' : World) (hB : Below w.heap.size w w') => sum_one a2 c2 l2 w' (by omega) t2 (b2.below hB (Nat.le_refl _)))
  have KM := hide (fun (w' : World) (hB : Below w.heap.size w w') => More_ok (sumL l1) (sumL_lt l1 t1) a2 c2 l2 w' (by omega) t2 (b2.below hB (Nat.le_refl _)))
  have KC := hide (Combine_n (sumL l1) (sumL l2) l2.length (sumL_lt l1 t1) (sumL_lt l2 t2) (by omega))
  have em := more_sum l1 l2
  have ec : cmb (sumL l1) (sumL l2) l2.length = sumL (l1 ++ l2) := combine_sum l1 l2 t2
  rw [em] at KM
  rw [ec] at KC
  have hLn : (l1 ++ l2).length = l1.length + l2.length := List.length_append
  have hrw : rowF (byteV (l1 ++ l2)) (l1.length + l2.length) = rowF (byteV l1) l1.length ++ rowF (byteV l2) l2.length := rowF_append l1 l2
  have KX := hide (xor_sum (l1.take (min l1.length (min l2.length l3.length))) (l2.take (min l1.length (min l2.length l3.length))) (l3.take (min l1.length (min l2.length l3.length))) (by simp; omega) (by simp; omega) (fun x hx => t1 x (List.mem_of_mem_take hx)) (fun x hx => t2 x (List.mem_of_mem_take hx)) (fun x hx => t3 x (List.mem_of_mem_take hx)))
  have B1 := hide b1
  have B2 := hide b2
  have B3 := hide b3
  have T1 := hide t1
  have T2 := hide t2
  have T3 := hide t3
  clear b1 b2 b3 t1 t2 t3 em ec
  have d1 : decide ((20000 : Int) < (l1.length : Int)) = false := decide_eq_false (by omega)
  have d1' : decide (20000 < l1.length) = false := decide_eq_false (by omega)
  have d2 : decide ((20000 : Int) < (l2.length : Int)) = false := decide_eq_false (by omega)
  have d2' : decide (20000 < l2.length) = false := decide_eq_false (by omega)
  have d3 : decide ((20000 : Int) < (l3.length : Int)) = false := decide_eq_false (by omega)
  have d3' : decide (20000 < l3.length) = false := decide_eq_false (by omega)
  generalize hL : l1 ++ l2 = L at *
  have HLT := hide hLt
  have HLN := hide hLn
  have HRW := hide hrw
  clear hL hLt hLn hrw
  generalize hn1 : l1.length = n1 at *
  generalize hn2 : l2.length = n2 at *
  generalize hn3 : l3.length = n3 at *
  have N1 := hide hn1
  have N2 := hide hn2
  have N3 := hide hn3
  have hN : n1 + n2 ≤ 40000 := by omega
  clear hn1 hn2 hn3
  generalize hNN : n1 + n2 = N at *
  have HNN := hide hNN
  clear hNN
  have hrow0 : (w.alloc (.cells #[] 5)).ownsRow w.heap.size 5 1 (.slice (some ⟨w.heap.size, 0, none⟩) 0 0) 0 [] := ⟨rfl, .inr ⟨w.heap.size, 0, #[], rfl, Nat.le_refl _, heap_alloc_new w _, by omega, by unfold maxLen; omega, rfl, rfl⟩⟩
  have HROW0 := hide hrow0
  have HB0 := hide ((Below.refl w.heap.size w).alloc (Nat.le_refl _) (.cells #[] 5))
  clear hrow0
  go_enter Try.func6, Try.ntmps6
  go_wp2_with (first
    | (at_builtin; refine wpList_append_src rfl (.tmp 28) (.tmp 29) 22 rfl w.heap.size 5 i0 (.int .u8 0) 1 1 Try.underlying22 hi hz0 hz1 hz2 rfl (by decide) (.slice (some ⟨w.heap.size, 0, none⟩) 0 0) 0 [] rfl HROW0.out a1 n1 c1 (rowF (byteV l1) n1) rfl (by simp) z1 (S1.out _ HB0.out) (rowF_one _ _ (byteV_one _)) (by unfold maxLen; omega) (by omega) (by simp) ?_; intro v1 w1 hown1 hgrow1; rw [Nat.zero_add, List.nil_append] at hown1; have HO1 := hide hown1; have HB1 := hide (below_own HB0.out HROW0.out (Nat.le_refl _) (by simp) hgrow1); clear hown1 hgrow1)
    | (at_builtin; refine wpList_append_src rfl (.tmp 30) (.tmp 31) 22 rfl w.heap.size 5 i0 (.int .u8 0) 1 1 Try.underlying22 hi hz0 hz1 hz2 rfl (by decide) _ n1 (rowF (byteV l1) n1) rfl HO1.out a2 n2 c2 (rowF (byteV l2) n2) rfl (by simp) z2 (S2.out _ HB1.out) (rowF_one _ _ (byteV_one _)) (by unfold maxLen; omega) (by omega) HB1.out.size ?_; intro v2 w2 hown2 hgrow2; rw [HNN.out, ← HRW.out] at hown2; obtain ⟨ao, cp, rfl, hcp, hao0, hbb, hao⟩ := own_any hown2; have BAB : Hid (BytesAt w2 ao L) := hide (by unfold BytesAt; rw [HLN.out]; exact hbb); have HO2 := hide hown2; have HB2 := hide (below_own HB1.out HO1.out (Nat.le_refl _) HB1.out.size hgrow2); clear hown2 hgrow2 hao hbb))
  have KAB := hide (fun (w' : World) (hB : Below w2.heap.size w2 w') => sum_one ao cp L w' (by rw [HLN.out]; omega) HLT.out (BAB.out.below hB (Nat.le_refl _)))
  have KSE := hide (fun (w' : World) (hB : Below w2.heap.size w2 w') => Seal_ok ao cp L w' (by rw [HLN.out]; omega) HLT.out (BAB.out.below hB (Nat.le_refl _)))
  have KCV := hide (fun (w' : World) (hB : Below w2.heap.size w2 w') => conv_ok (BAB.out.below hB (Nat.le_refl _)) cp)
  have KOP := hide (fun (v : Value) (base : Nat) (w' : World) => Open_sealed v base L w' (by rw [HLN.out]; omega) HLT.out)
  rw [HLN.out] at KAB KSE KCV
  have hsn : (((sumL L : Nat) : Int) != ((sumL L : Nat) : Int)) = false := by simp
  generalize sumL L = s at *
  refine (KAB.out w2 (Below.refl _ _)).mono ?_
  rintro e w3 ⟨rfl, hB3⟩
  have HB3 := hide hB3
  have HA3 := hide (HB2.out.trans (hB3.mono HB2.out.size))
  clear hB3
  generalize sumL l1 = x1 at *
  generalize sumL l2 = x2 at *
  go_wp2_with fail
  refine (K2.out w3 HA3.out).mono ?_
  rintro e w4 ⟨rfl, hB⟩
  have HB4 := hide (HB3.out.trans (hB.mono HB3.out.size))
  have HA4 := hide (HA3.out.trans (hB.mono HA3.out.size))
  clear hB
  go_wp2_with fail
  refine (KA.out w4 HA4.out).mono ?_
  rintro e w5 ⟨rfl, hB⟩
  have HB5 := hide (HB4.out.trans (hB.mono HB4.out.size))
  have HA5 := hide (HA4.out.trans (hB.mono HA4.out.size))
  clear hB
  go_wp2_with fail
  refine (KM.out w5 HA5.out).mono ?_
  rintro e w6 ⟨rfl, hB⟩
  have HB6 := hide (HB5.out.trans (hB.mono HB5.out.size))
  have HA6 := hide (HA5.out.trans (hB.mono HA5.out.size))
  clear hB
  go_wp2_with fail
  refine (KA.out w6 HA6.out).mono ?_
  rintro e w7 ⟨rfl, hB⟩
  have HB7 := hide (HB6.out.trans (hB.mono HB6.out.size))
  have HA7 := hide (HA6.out.trans (hB.mono HA6.out.size))
  clear hB
  go_wp2_with fail
  refine (KB.out w7 HA7.out).mono ?_
  rintro e w8 ⟨rfl, hB⟩
  have HB8 := hide (HB7.out.trans (hB.mono HB7.out.size))
  have HA8 := hide (HA7.out.trans (hB.mono HA7.out.size))
  clear hB
  go_wp2_with fail
  refine (KC.out w8).mono ?_
  rintro e w9 ⟨rfl, hB⟩
  have HB9 := hide (HB8.out.trans (hB.mono HB8.out.size))
  have HA9 := hide (HA8.out.trans (hB.mono HA8.out.size))
  clear hB HB3 HA3 HB4 HA4 HB5 HA5 HB6 HA6 HB7 HA7 HB8 HA8 K2 KA KB KM KC KAB
  go_wp2_with fail
  refine (KSE.out w9 HB9.out).mono ?_
  rintro e w10 ⟨v10, rfl, hv10, hB⟩
  have HV10 := hide hv10
  have HB10 := hide (HB9.out.trans (hB.mono HB9.out.size))
  have HA10 := hide (HA9.out.trans (hB.mono HA9.out.size))
  clear hB hv10
  go_wp2_with fail
  refine (KOP.out v10 _ w10 HV10.out).mono ?_
  rintro e w11 ⟨v11, rfl, hv11, hB⟩
  have HB11 := hide (HB10.out.trans (hB.mono HB10.out.size))
  have HA11 := hide (HA10.out.trans (hB.mono HA10.out.size))
  obtain ⟨ao2, cp2, rfl, _, _, hbv, _⟩ := hv11.any
  have hcv1 := conv_ok hbv cp2
  have hcv2 := KCV.out w11 HB11.out
  rw [HLN.out] at hcv1 ⊢
  have hse : (!((strL L).toList == (strL L).toList)) = false := by simp
  have hse2 : ((strL L).toList == (strL L).toList) = true := by simp
  clear hB hbv hv11
  generalize strL L = st at *
  go_wp2_with fail
  refine (num_ok 0 _).mono ?_
  rintro e w' ⟨rfl, rfl⟩
  obtain ⟨n, hn⟩ : ∃ n, n = min n1 (min n2 n3) := ⟨_, rfl⟩
  have hnn1 : n ≤ n1 := by omega
  have hnn2 : n ≤ n2 := by omega
  have hnn3 : n ≤ n3 := by omega
  have hn20 : n ≤ 20000 := by omega
  have hmin : ∀ w : World, (Builtin.min_ #[3, 3, 3] 3 #[.int .i64 (n1 : Int), .int .i64 (n2 : Int), .int .i64 (n3 : Int)]).run Try.prog w = .ok (.int .i64 (n : Int)) w := fun w => by
    rw [run_min_int3]
    have e : (if (n3 : Int) < (if (n2 : Int) < (n1 : Int) then (n2 : Int) else (n1 : Int)) then (n3 : Int) else (if (n2 : Int) < (n1 : Int) then (n2 : Int) else (n1 : Int))) = (n : Int) := by
      by_cases q1 : (n2 : Int) < n1
      · rw [if_pos q1]
        by_cases q2 : (n3 : Int) < n2
        · rw [if_pos q2]; omega
        · rw [if_neg q2]; omega
      · rw [if_neg q1]
        by_cases q2 : (n3 : Int) < n1
        · rw [if_pos q2]; omega
        · rw [if_neg q2]; omega
    rw [e]
  have hmk := run_make_row' (P := Try.prog) 22 5 (.int .u8 0) 1 Try.underlying22 Try.info5 rfl .i64 .i64 n (by omega) (by omega)
  rw [← hn] at KX
  clear hn
  obtain ⟨X, hX⟩ : ∃ X, X = xorL (xorL (l1.take n) (l2.take n)) (l3.take n) := ⟨_, rfl⟩
  have hA1 : (l1.take n).length = n := by simp; have := N1.out; omega
  have hA2 : (l2.take n).length = n := by simp; have := N2.out; omega
  have hA3 : (l3.take n).length = n := by simp; have := N3.out; omega
  have HXL : Hid (X.length = n) := hide (by rw [hX, xorL_length _ _ (by rw [xorL_length _ _ (by omega)]; omega), xorL_length _ _ (by omega), hA1])
  have HSTEP := hide (fun (D : List Nat) (k : Nat) (hD : D.length = n) (hk : k < n) (h : ∀ j, j < k → D.getD j 0 = X.getD j 0) => xor_step hA1 hA2 hA3 hX hD hk h)
  have HXX : Hid (X = xorL (xorL (l1.take n) (l2.take n)) (l3.take n)) := hide hX
  have HL1 := hide hA1
  have HL2 := hide hA2
  have HL3 := hide hA3
  clear hX hA1 hA2 hA3
  have HWB0 := hide (made_wb w11 n (by unfold maxLen; omega))
  have HBW0 := hide (HA11.out.alloc HA11.out.size (.cells (madeCells #[.int .u8 0] n) 5))
  go_wp2_with fail
  clear hmk hmin
  go_loopw [13] (fun i wr => ∃ (k : Nat) (D : List Nat), k ≤ n ∧ i = .int .i64 k ∧ Hid (D.length = n) ∧ Hid (∀ j, j < k → D.getD j 0 = X.getD j 0) ∧ Hid (WBytes wr w11.heap.size w11.heap.size n D) ∧ Hid (Below w.heap.size w wr)) (fun i _ => n - (intOf i).toNat)
  case atStart => exact ⟨0, List.replicate n 0, by omega, rfl, hide (by simp), hide (fun j hj => by omega), HWB0, HBW0⟩
  case round =>
    obtain ⟨k, D, hk, rfl, HD, HJ, HWB, HBR⟩ := hrel
    by_cases hlt : k < n
    · have u1 := getD_lt l1 T1.out k
      have u2 := getD_lt l2 T2.out k
      have u3 := getD_lt l3 T3.out k
      obtain ⟨g1, o1, rfl, hc1⟩ := (B1.out.below HBR.out (Nat.le_refl _)) k (by rw [N1.out]; omega)
      obtain ⟨g2, o2, rfl, hc2⟩ := (B2.out.below HBR.out (Nat.le_refl _)) k (by rw [N2.out]; omega)
      obtain ⟨g3, o3, rfl, hc3⟩ := (B3.out.below HBR.out (Nat.le_refl _)) k (by rw [N3.out]; omega)
      have hst := HSTEP.out D k HD.out hlt HJ.out
      rw [take_getD' _ _ _ hlt, take_getD' _ _ _ hlt, take_getD' _ _ _ hlt] at hst
      have hcw := HWB.out.cell k (by rw [HD.out]; exact hlt)
      have hfw := HWB.out.free k
      dsimp only at hc1 hc2 hc3
      generalize D.getD k 0 = dk at hcw
      generalize l1.getD k 0 = x at *
      generalize l2.getD k 0 = y at *
      generalize l3.getD k 0 = z at *
      have e1 := u8xor x y u1 u2
      have u4 : x ^^^ y < 256 := Nat.xor_lt_two_pow (n := 8) u1 u2
      generalize x ^^^ y = u at *
      have e2 := u8xor u z u4 u3
      have HST := hide hst
      have HWS := hide (HWB.out.set k (u ^^^ z)).drew
      have HBS := hide (belowDrew (HBR.out.setCell (p := ⟨w11.heap.size, k, none⟩) HA11.out.size (.int .u8 ((u ^^^ z : Nat) : Int))))
      clear hst
      have hd1 : wr.drew.cell? ⟨g1, o1 + k, none⟩ = some (.int .u8 (x : Nat)) := hc1
      have hd2 : wr.drew.cell? ⟨g2, o2 + k, none⟩ = some (.int .u8 (y : Nat)) := hc2
      have hd3 : wr.drew.cell? ⟨g3, o3 + k, none⟩ = some (.int .u8 (z : Nat)) := hc3
      have hd4 : wr.drew.cell? ⟨w11.heap.size, k, none⟩ = some (.int .u8 (dk : Nat)) := hcw
      have hd5 : wr.drew.frozen? ⟨w11.heap.size, k, none⟩ = false := hfw
      have i1 : (k : Int) < (n1 : Int) := by omega
      have i2 : (k : Int) < (n2 : Int) := by omega
      have i3 : (k : Int) < (n3 : Int) := by omega
      have i4 : (k : Int) < (n : Int) := by omega
      clear hc1 hc2 hc3 hcw hfw
      generalize u ^^^ z = v at *
      go_wp2_with fail
      go_big_region
      go_wp2
      go_roundw
      case rel => exact ⟨k + 1, D.set k v, by omega, by go_num, hide (by rw [List.length_set]; exact HD.out), HST, HWS, HBS⟩
      case measure => simp [intOf]; omega
    · obtain rfl : k = n := by omega
      obtain rfl : D = X := eq_of_getD HD.out HXL.out HJ.out
      rw [← HXX.out] at KX
      have hk1 : ((k : Nat) : Int) ≤ (c1 : Int) := by omega
      have hk2 : ((k : Nat) : Int) ≤ (c2 : Int) := by omega
      have hk3 : ((k : Nat) : Int) ≤ (c3 : Int) := by omega
      have FD := hide (fun (w' : World) (g : Nat) (hB : Below wr.drew.heap.size wr.drew w') => sum_at g (some ⟨w11.heap.size, 0, none⟩) k D w' (by rw [HD.out]; omega) (by rw [HXX.out]; exact xorL_lt _ _ (xorL_lt _ _ (fun x hx => T1.out x (List.mem_of_mem_take hx)) (fun x hx => T2.out x (List.mem_of_mem_take hx))) (fun x hx => T3.out x (List.mem_of_mem_take hx))) ((show BytesAt wr.drew (some ⟨w11.heap.size, 0, none⟩) D from HWB.out.at_.1).below hB (Nat.le_refl _)))
      have FA := hide (fun (a : Option Addr) (w' : World) (g : Nat) (h : BytesAt w' a (l1.take k)) => sum_at g a c1 (l1.take k) w' (by rw [HL1.out]; omega) (fun x hx => T1.out x (List.mem_of_mem_take hx)) h)
      have FB := hide (fun (a : Option Addr) (w' : World) (g : Nat) (h : BytesAt w' a (l2.take k)) => sum_at g a c2 (l2.take k) w' (by rw [HL2.out]; omega) (fun x hx => T2.out x (List.mem_of_mem_take hx)) h)
      have FC := hide (fun (a : Option Addr) (w' : World) (g : Nat) (h : BytesAt w' a (l3.take k)) => sum_at g a c3 (l3.take k) w' (by rw [HL3.out]; omega) (fun x hx => T3.out x (List.mem_of_mem_take hx)) h)
      rw [HD.out] at FD
      rw [HL1.out] at FA
      rw [HL2.out] at FB
      rw [HL3.out] at FC
      have hsa : sumL (l1.take k) < 4294967296 := sumL_lt _ (fun x hx => T1.out x (List.mem_of_mem_take hx))
      have hsb : sumL (l2.take k) < 4294967296 := sumL_lt _ (fun x hx => T2.out x (List.mem_of_mem_take hx))
      have hsc : sumL (l3.take k) < 4294967296 := sumL_lt _ (fun x hx => T3.out x (List.mem_of_mem_take hx))
      rw [KX.out] at FD
      generalize sumL (l1.take k) = sa at *
      generalize sumL (l2.take k) = sb at *
      generalize sumL (l3.take k) = sc at *
      have ex1 := u32xor sa sb hsa hsb
      have ex2 := u32xor (sa ^^^ sb) sc (xor_lt32 hsa hsb) hsc
      generalize sa ^^^ sb = sab at *
      generalize sab ^^^ sc = sd at *
      clear KX
      have SA := hide (show BytesAt wr.drew a1 (l1.take k) from (B1.out.below HBR.out (Nat.le_refl _)).take k (by rw [N1.out]; exact hnn1))
      have SB := hide (show BytesAt wr.drew a2 (l2.take k) from (B2.out.below HBR.out (Nat.le_refl _)).take k (by rw [N2.out]; exact hnn2))
      have SC := hide (show BytesAt wr.drew a3 (l3.take k) from (B3.out.below HBR.out (Nat.le_refl _)).take k (by rw [N3.out]; exact hnn3))
      go_wp2_with fail
      refine wp_region_fill [(0, 111), (1, 112), (2, 113), (3, 114), (4, 115), (5, 116), (6, 117), (7, 118), (8, 119), (9, 120), (10, 121), (11, 122), (12, 123), (13, 124), (14, 125), (15, 126), (16, 127), (17, 128), (18, 129), (19, 130), (20, 131), (21, 132), (22, 133), (23, 134), (24, 6)]
        (fun q x w' => match q with
          | 0 => x = .slice (some ⟨w11.heap.size, 0, none⟩) k k
          | 1 => HeldOne w' x (.slice (some ⟨w11.heap.size, 0, none⟩) k k)
          | 2 => x = .int .u32 (sd : Nat)
          | 3 => x = .slice a1 n1 c1
          | 4 => x = .int .i64 (k : Nat)
          | 5 => SlAt w' x (l1.take k) k c1
          | 6 => HeldSl w' x (l1.take k) k c1
          | 7 => x = .int .u32 (sa : Nat)
          | 8 => x = .slice a2 n2 c2
          | 9 => x = .int .i64 (k : Nat)
          | 10 => SlAt w' x (l2.take k) k c2
          | 11 => HeldSl w' x (l2.take k) k c2
          | 12 => x = .int .u32 (sb : Nat)
          | 13 => x = .int .u32 (sab : Nat)
          | 14 => x = .slice a3 n3 c3
          | 15 => x = .int .i64 (k : Nat)
          | 16 => SlAt w' x (l3.take k) k c3
          | 17 => HeldSl w' x (l3.take k) k c3
          | 18 => x = .int .u32 (sc : Nat)
          | 19 => x = .int .u32 (sd : Nat)
          | 20 => x = .bool true
          | 21 => x = .bool true
          | 22 => x = .bool true
          | 23 => x = .bool true
          | 24 => x = .bool true
          | _ => True) (by kernel_rfl) (by kernel_rfl) (by kernel_rfl) (by kernel_rfl) (by decide) ?_ ?_ ?_
      · intro q x w' w'' hB h
        revert h
        split <;> intro h <;> first | exact h | exact h.mono hB
      · simp only [FillAll]
        refine ⟨?_, ?_, ?_, ?_, ?_, ?_, ?_, ?_, ?_, ?_, ?_, ?_, ?_, ?_, ?_, ?_, ?_, ?_, ?_, ?_, ?_, ?_, ?_, ?_, ?_, trivial⟩
        · intro v w' hB hdep K' hK
          simp only [fillAct, Act.put, List.setIfInBounds_toArray, List.set_cons_zero, List.set_cons_succ] at hK ⊢
          rw [if_pos (by rfl)]
          go_simp
          exact hK.out _ _ (Below.refl _ _) rfl
        · intro v w' hB hdep K' hK
          have h0 : v 0 = .slice (some ⟨w11.heap.size, 0, none⟩) k k := hdep ⟨0, .data⟩ (by simp) rfl
          simp only [fillAct, Act.put, List.setIfInBounds_toArray, List.set_cons_zero, List.set_cons_succ, h0] at hK ⊢
          rw [if_pos (by rfl)]
          refine wp_build_one 111 rfl (some ⟨w11.heap.size, 0, none⟩) k k rfl ?_
          exact hK.out _ _ ((Below.refl _ _).alloc (Nat.le_refl _) _) (HeldOne.new _ _ _)
        · intro v w' hB hdep K' hK
          obtain ⟨g, h1, hc⟩ := hdep ⟨1, .data⟩ (by simp) rfl
          simp only [fillAct, Act.put, List.setIfInBounds_toArray, List.set_cons_zero, List.set_cons_succ, h1] at hK ⊢
          rw [if_pos (by rfl)]
          go_simp
          refine (FD.out w' g hB hc).mono ?_
          rintro e w2 ⟨rfl, hB2⟩
          exact hK.out _ _ hB2 rfl
        · intro v w' hB hdep K' hK
          simp only [fillAct, Act.put, List.setIfInBounds_toArray, List.set_cons_zero, List.set_cons_succ] at hK ⊢
          rw [if_pos (by rfl)]
          go_simp
          exact hK.out _ _ (Below.refl _ _) rfl
        · intro v w' hB hdep K' hK
          simp only [fillAct, Act.put, List.setIfInBounds_toArray, List.set_cons_zero, List.set_cons_succ] at hK ⊢
          rw [if_pos (by rfl)]
          go_simp
          exact hK.out _ _ (Below.refl _ _) rfl
        · intro v w' hB hdep K' hK
          have h3 : v 3 = .slice a1 n1 c1 := hdep ⟨3, .data⟩ (by simp) rfl
          have h4 : v 4 = .int .i64 (k : Nat) := hdep ⟨4, .data⟩ (by simp) rfl
          simp only [fillAct, Act.put, List.setIfInBounds_toArray, List.set_cons_zero, List.set_cons_succ, h3, h4] at hK ⊢
          rw [if_pos (by rfl)]
          go_simp
          exact hK.out _ _ (Below.refl _ _) ⟨_, rfl, SA.out.below hB (Nat.le_refl _)⟩
        · intro v w' hB hdep K' hK
          obtain ⟨a', h5, hb'⟩ := hdep ⟨5, .data⟩ (by simp) rfl
          simp only [fillAct, Act.put, List.setIfInBounds_toArray, List.set_cons_zero, List.set_cons_succ, h5] at hK ⊢
          rw [if_pos (by rfl)]
          refine wp_build_one 116 rfl a' k c1 rfl ?_
          exact hK.out _ _ ((Below.refl _ _).alloc (Nat.le_refl _) _) ⟨_, HeldOne.new _ _ _, _, rfl, hb'.below ((Below.refl _ _).alloc (Nat.le_refl _) _) (Nat.le_refl _)⟩
        · intro v w' hB hdep K' hK
          obtain ⟨_, ⟨g, h1, hc⟩, a', rfl, hb'⟩ := hdep ⟨6, .data⟩ (by simp) rfl
          simp only [fillAct, Act.put, List.setIfInBounds_toArray, List.set_cons_zero, List.set_cons_succ, h1] at hK ⊢
          rw [if_pos (by rfl)]
          go_simp
          refine (FA.out a' w' g hb' hc).mono ?_
          rintro e w2 ⟨rfl, hB2⟩
          exact hK.out _ _ hB2 rfl
        · intro v w' hB hdep K' hK
          simp only [fillAct, Act.put, List.setIfInBounds_toArray, List.set_cons_zero, List.set_cons_succ] at hK ⊢
          rw [if_pos (by rfl)]
          go_simp
          exact hK.out _ _ (Below.refl _ _) rfl
        · intro v w' hB hdep K' hK
          simp only [fillAct, Act.put, List.setIfInBounds_toArray, List.set_cons_zero, List.set_cons_succ] at hK ⊢
          rw [if_pos (by rfl)]
          go_simp
          exact hK.out _ _ (Below.refl _ _) rfl
        · intro v w' hB hdep K' hK
          have h8 : v 8 = .slice a2 n2 c2 := hdep ⟨8, .data⟩ (by simp) rfl
          have h9 : v 9 = .int .i64 (k : Nat) := hdep ⟨9, .data⟩ (by simp) rfl
          simp only [fillAct, Act.put, List.setIfInBounds_toArray, List.set_cons_zero, List.set_cons_succ, h8, h9] at hK ⊢
          rw [if_pos (by rfl)]
          go_simp
          exact hK.out _ _ (Below.refl _ _) ⟨_, rfl, SB.out.below hB (Nat.le_refl _)⟩
        · intro v w' hB hdep K' hK
          obtain ⟨a', h10, hb'⟩ := hdep ⟨10, .data⟩ (by simp) rfl
          simp only [fillAct, Act.put, List.setIfInBounds_toArray, List.set_cons_zero, List.set_cons_succ, h10] at hK ⊢
          rw [if_pos (by rfl)]
          refine wp_build_one 121 rfl a' k c2 rfl ?_
          exact hK.out _ _ ((Below.refl _ _).alloc (Nat.le_refl _) _) ⟨_, HeldOne.new _ _ _, _, rfl, hb'.below ((Below.refl _ _).alloc (Nat.le_refl _) _) (Nat.le_refl _)⟩
        · intro v w' hB hdep K' hK
          obtain ⟨_, ⟨g, h1, hc⟩, a', rfl, hb'⟩ := hdep ⟨11, .data⟩ (by simp) rfl
          simp only [fillAct, Act.put, List.setIfInBounds_toArray, List.set_cons_zero, List.set_cons_succ, h1] at hK ⊢
          rw [if_pos (by rfl)]
          go_simp
          refine (FB.out a' w' g hb' hc).mono ?_
          rintro e w2 ⟨rfl, hB2⟩
          exact hK.out _ _ hB2 rfl
        · intro v w' hB hdep K' hK
          have h7 : v 7 = .int .u32 (sa : Nat) := hdep ⟨7, .data⟩ (by simp) rfl
          have h12 : v 12 = .int .u32 (sb : Nat) := hdep ⟨12, .data⟩ (by simp) rfl
          simp only [fillAct, Act.put, List.setIfInBounds_toArray, List.set_cons_zero, List.set_cons_succ, h7, h12] at hK ⊢
          rw [if_pos (by rfl)]
          go_simp
          exact hK.out _ _ (Below.refl _ _) rfl
        · intro v w' hB hdep K' hK
          simp only [fillAct, Act.put, List.setIfInBounds_toArray, List.set_cons_zero, List.set_cons_succ] at hK ⊢
          rw [if_pos (by rfl)]
          go_simp
          exact hK.out _ _ (Below.refl _ _) rfl
        · intro v w' hB hdep K' hK
          simp only [fillAct, Act.put, List.setIfInBounds_toArray, List.set_cons_zero, List.set_cons_succ] at hK ⊢
          rw [if_pos (by rfl)]
          go_simp
          exact hK.out _ _ (Below.refl _ _) rfl
        · intro v w' hB hdep K' hK
          have h14 : v 14 = .slice a3 n3 c3 := hdep ⟨14, .data⟩ (by simp) rfl
          have h15 : v 15 = .int .i64 (k : Nat) := hdep ⟨15, .data⟩ (by simp) rfl
          simp only [fillAct, Act.put, List.setIfInBounds_toArray, List.set_cons_zero, List.set_cons_succ, h14, h15] at hK ⊢
          rw [if_pos (by rfl)]
          go_simp
          exact hK.out _ _ (Below.refl _ _) ⟨_, rfl, SC.out.below hB (Nat.le_refl _)⟩
        · intro v w' hB hdep K' hK
          obtain ⟨a', h16, hb'⟩ := hdep ⟨16, .data⟩ (by simp) rfl
          simp only [fillAct, Act.put, List.setIfInBounds_toArray, List.set_cons_zero, List.set_cons_succ, h16] at hK ⊢
          rw [if_pos (by rfl)]
          refine wp_build_one 127 rfl a' k c3 rfl ?_
          exact hK.out _ _ ((Below.refl _ _).alloc (Nat.le_refl _) _) ⟨_, HeldOne.new _ _ _, _, rfl, hb'.below ((Below.refl _ _).alloc (Nat.le_refl _) _) (Nat.le_refl _)⟩
        · intro v w' hB hdep K' hK
          obtain ⟨_, ⟨g, h1, hc⟩, a', rfl, hb'⟩ := hdep ⟨17, .data⟩ (by simp) rfl
          simp only [fillAct, Act.put, List.setIfInBounds_toArray, List.set_cons_zero, List.set_cons_succ, h1] at hK ⊢
          rw [if_pos (by rfl)]
          go_simp
          refine (FC.out a' w' g hb' hc).mono ?_
          rintro e w2 ⟨rfl, hB2⟩
          exact hK.out _ _ hB2 rfl
        · intro v w' hB hdep K' hK
          have h13 : v 13 = .int .u32 (sab : Nat) := hdep ⟨13, .data⟩ (by simp) rfl
          have h18 : v 18 = .int .u32 (sc : Nat) := hdep ⟨18, .data⟩ (by simp) rfl
          simp only [fillAct, Act.put, List.setIfInBounds_toArray, List.set_cons_zero, List.set_cons_succ, h13, h18] at hK ⊢
          rw [if_pos (by rfl)]
          go_simp
          exact hK.out _ _ (Below.refl _ _) rfl
        · intro v w' hB hdep K' hK
          have h2 : v 2 = .int .u32 (sd : Nat) := hdep ⟨2, .data⟩ (by simp) rfl
          have h19 : v 19 = .int .u32 (sd : Nat) := hdep ⟨19, .data⟩ (by simp) rfl
          simp only [fillAct, Act.put, List.setIfInBounds_toArray, List.set_cons_zero, List.set_cons_succ, h2, h19] at hK ⊢
          rw [if_pos (by rfl)]
          go_simp
          exact hK.out _ _ (Below.refl _ _) rfl
        · intro v w' hB hdep K' hK
          have h20 : v 20 = .bool true := hdep ⟨20, .data⟩ (by simp) rfl
          simp only [fillAct, Act.put, List.setIfInBounds_toArray, List.set_cons_zero, List.set_cons_succ, h20] at hK ⊢
          rw [if_pos (by rfl)]
          go_simp
          exact hK.out _ _ (Below.refl _ _) rfl
        · intro v w' hB hdep K' hK
          have h21 : v 21 = .bool true := hdep ⟨21, .guard⟩ (by simp) rfl
          simp only [fillAct, Act.put, List.setIfInBounds_toArray, List.set_cons_zero, List.set_cons_succ, h21] at hK ⊢
          rw [if_pos (by rfl)]
          go_simp
          refine (works_ok w').mono ?_
          rintro e w2 ⟨rfl, hB2⟩
          exact hK.out _ _ hB2 rfl
        · intro v w' hB hdep K' hK
          have h21 : v 21 = .bool true := hdep ⟨21, .data⟩ (by simp) rfl
          have h22 : v 22 = .bool true := hdep ⟨22, .data⟩ (by simp) rfl
          simp only [fillAct, Act.put, List.setIfInBounds_toArray, List.set_cons_zero, List.set_cons_succ, h21, h22] at hK ⊢
          rw [if_pos (by rfl)]
          go_simp
          exact hK.out _ _ (Below.refl _ _) rfl
        · intro v w' hB hdep K' hK
          have h23 : v 23 = .bool true := hdep ⟨23, .data⟩ (by simp) rfl
          simp only [fillAct, Act.put, List.setIfInBounds_toArray, List.set_cons_zero, List.set_cons_succ, h23] at hK ⊢
          rw [if_pos (by rfl)]
          go_simp
          exact hK.out _ _ (Below.refl _ _) rfl
      · intro v w' hB hall
        have h24 : v 24 = .bool true := hall 24 (by decide)
        simp only [fillAct, Act.put, List.setIfInBounds_toArray, List.set_cons_zero, List.set_cons_succ, h24]
        have hBE := HBR.out.trans (show Below w.heap.size wr w' from (show Below wr.heap.size wr w' from ⟨hB.os, hB.tape, hB.output, hB.size, hB.block⟩).mono HBR.out.size)
        go_wp2
        go_ret
        exact ⟨rfl, hBE⟩
end Go.Proofs.Ytbcdalgfceagcaa
