/- IndexRead: any bytes are read as the index that they are, or refused. -/
import Derived.Test.YthbknahmmegcdaaIxTells
import Derived.Test.YthbknahmmegcdaaIxRefRead
namespace Go.Proofs.Ythbknahmmegcdaa
open Go.RowKit Go.Shelf
set_option linter.unusedVariables false

theorem readF_bnd {f : Nat → Nat} {n : Nat} {st : Int} {l : List S2} (h : readF f n = some (st, l)) : 1 ≤ st ∧ st ≤ 16777216 ∧ l.length ≤ n := by
  unfold readF at h
  split at h
  · cases h
  · split at h
    · cases h
    · split at h
      · cases h
      · rename_i h1 h2 h3
        rw [Option.map_eq_some_iff] at h
        obtain ⟨l0, h4, h5⟩ := h
        injection h5 with h5 h6
        subst h6
        have := (readS_len h4).1
        omega
/-- n numbers -/
def fL (f : Nat → Nat) (n : Nat) : List Nat := (List.range n).map f
theorem fL_length (f : Nat → Nat) (n : Nat) : (fL f n).length = n := by simp [fL]
theorem fL_get (f : Nat → Nat) (n j : Nat) (h : j < n) : (fL f n).getD j 0 = f j := by simp [fL, List.getD_eq_getElem?_getD, h]
theorem conv_f {w : World} {a : Option Addr} {f : Nat → Nat} {n : Nat} (h : CellsAt w a n (fun j => .int .u8 (f j : Nat))) (c : Nat) : (convert 43 9 (.slice a n c)).run Try.prog w = .ok (.string (strL (fL f n))) w :=
  conv_ok (fL_length f n) (fun j hj => by obtain ⟨b, off, e, h1⟩ := h j hj; exact ⟨b, off, e, by rw [h1]; show some (Value.int .u8 (f j : Nat)) = some (Value.int .u8 ((fL f n).getD j 0 : Nat)); rw [fL_get f n j hj]⟩) c

set_option maxRecDepth 100000 in
set_option maxHeartbeats 4000000 in
theorem read_walk (a : Option Addr) (n c : Nat) (f : Nat → Nat) (w : World) (hn : n ≤ 9223372036854775807) (hc : n ≤ c) (hnil : a = none → n = 0 ∧ c = 0) (hf : ∀ j, f j < 256) (hs : CellsAt w a n (fun j => .int .u8 (f j : Nat))) :
    Calls Try.prog 5 #[.slice a n c] w fun e w' => e = .returned (.bool true) ∧ Below w.heap.size w w' := by
  obtain ⟨i0, hi, hz0, hz1, hz2⟩ := info_parts Try.infoB
  by_cases h2 : 20000 < n
  · as_aux_lemma =>
      have d1 : decide ((20000 : Int) < (n : Int)) = true := decide_eq_true (by omega)
      have d1' : decide (20000 < n) = true := decide_eq_true h2
      clear hs hn h2 hf hc hnil
      go_enter Try.func5, Try.ntmps5
      go_wp2_with fail
      refine (known_ok w).mono ?_
      rintro e w1 ⟨rfl, hB⟩
      go_wp2_with fail
      go_ret
      exact ⟨rfl, hB⟩
  · have d1 : decide ((20000 : Int) < (n : Int)) = false := decide_eq_false (by omega)
    have d1' : decide (20000 < n) = false := decide_eq_false h2
    have HS := hide hs
    have hn2 : n ≤ 20000 := by omega
    have H0 : Hid (w.ownsRow w.heap.size 5 1 (.slice none 0 0) 0 []) := hide (World.ownsRow_nil _ _ _ _)
    have HSRC := hide hs.src
    have HNIL := hide hnil
    have HRL := hide (rowF_length (fun j => .int .u8 (f j : Nat)) n)
    have HR1 := hide (rowF_one (fun j => .int .u8 (f j : Nat)) n (fun j => rfl))
    have HCE : Hid (∀ (W : World) (g cap : Nat), W.ownsRow w.heap.size 5 1 (.slice (some ⟨g, 0, none⟩) (n + 1) cap) (n + 1) (rowF (fun j => .int .u8 (f j : Nat)) n ++ [.int .u8 77]) → CellsAt W (some ⟨g, 0, none⟩) n (fun j => .int .u8 (f j : Nat)) ∧ W.cell? ⟨g, n, none⟩ = some (.int .u8 77) ∧ n + 1 ≤ cap) := hide (fun W g cap h => by
      refine ⟨fun j hj => ⟨g, 0, rfl, ?_⟩, ?_, ?_⟩
      · have := World.ownsRow.cells h (g := g) rfl j (.int .u8 (f j : Nat)) (by rw [List.getElem?_append_left (by simpa using hj)]; exact rowF_get _ n j hj)
        rwa [addr_add] at this
      · have := World.ownsRow.cells h (g := g) rfl n (.int .u8 77) (by rw [List.getElem?_append_right (by simp)]; simp)
        rw [addr_add] at this
        rwa [Nat.zero_add] at this
      · rcases h.2 with ⟨h0, _⟩ | ⟨g', cap', cur, e, _, _, h3, _⟩
        · cases h0
        · injection e with e1 e2 e3
          omega)
    clear hs hnil hn h2
    generalize hRO : rowF (fun j => .int .u8 (f j : Nat)) n = RO at *
    clear hRO
    go_enter Try.func5, Try.ntmps5
    go_wp2_with (first
      | (at_builtin; refine wpList_append_src rfl _ _ 43 rfl w.heap.size 5 i0 (.int .u8 0) 1 1 Try.underlying43 hi hz0 hz1 hz2 rfl (by decide) (.slice none 0 0) 0 [] rfl H0.out a n c RO rfl (by rw [Nat.mul_one]; exact HRL.out) HNIL.out HSRC.out HR1.out (by unfold maxLen; omega) (by omega) (Nat.le_refl _) ?_; intro v1 w1 hown hgrow; rw [Nat.zero_add, List.nil_append] at hown; have HO1 := hide hown; have HB1 : Hid (Below w.heap.size w w1) := hide ((Below.refl _ _).grown hgrow (Nat.le_refl _) (by intro k e; simp [Value.ownBlock] at e)); clear hown hgrow)
      | (at_builtin; refine wpList_append_lies _ rfl _ _ 43 rfl w.heap.size 5 i0 (.int .u8 0) 1 1 Try.underlying43 hi hz0 hz1 hz2 rfl (by decide) _ n RO rfl (HO1.out.alloc _) ⟨w1.heap.size, 0, none⟩ 1 1 [.int .u8 77] rfl rfl (cell_one_new _ _ _) (one_cell _ rfl) (by omega) (by unfold maxLen; omega) (by omega) (by have := HB1.out.size; simp; omega) _ rfl ?_; intro g cap w2 hown hgrow hat hlt1; obtain ⟨hc1, hc2, hc3⟩ := HCE.out w2 g cap hown; have HC1 := hide hc1; have HC2 := hide hc2; have HC3 := hide hc3; have HB2 : Hid (Below w.heap.size w w2) := hide ((HB1.out.alloc HB1.out.size _).grown hgrow (by have := HB1.out.size; simp; omega) (fun r e => (HO1.out.lt r e).1)); clear hown hgrow hat hc1 hc2; have hs1 : n ≤ cap := by omega))
    have HF := hide hf
    have HRD := hide (Read_ok f hf (some ⟨g, 0, none⟩) n cap w2 (by omega) hs1 HC1.out)
    have HRR := hide (fun (W : World) (hB : Below w.heap.size w W) => refRead_ok f hf a n c W (by omega) hc (HS.out.below hB (Nat.le_refl _)))
    have hi1 : (n : Int) < (n : Int) + 1 := by omega
    have hi2 : n < n + 1 := by omega
    have hs2 : (n : Int) + 1 ≤ (cap : Int) := by omega
    have hw1 : IntKind.i64.wrap ((n : Int) + 1) = (n : Int) + 1 := by rw [IntKind.wrap_i64]; omega
    have HBN : Hid (∀ st l, readF f n = some (st, l) → 1 ≤ st ∧ st ≤ 16777216 ∧ l.length ≤ n) := hide (fun st l h => readF_bnd h)
    have HLL : Hid (∀ st l, readF f n = some (st, l) → l.length ≤ 8000) := hide (fun st l h => by
      unfold readF at h
      split at h
      · cases h
      · split at h
        · cases h
        · split at h
          · cases h
          · rw [Option.map_eq_some_iff] at h
            obtain ⟨l0, h4, h5⟩ := h
            injection h5 with h5 h6
            subst h6
            have := (readS_len h4).1
            omega)
    clear hc hf HO1 HNIL HSRC HRL HR1 HCE HC3 HB1 H0
    clear hi hz0 hz1 hz2
    refine HRD.out.mono ?_
    clear HRD
    rintro e w3 ⟨hB3, hno, hyes⟩
    have HC3 := hide (HC1.out.below hB3 (Nat.le_refl _))
    have HD3 := hide ((hB3.cell (p := ⟨g, n, none⟩) (World.block_lt_of_cell? w2 _ HC2.out)).trans HC2.out)
    have HB3 := hide (HB2.out.trans (hB3.mono HB2.out.size))
    clear hB3 HC1 HC2
    cases hR : readF f n with
    | none =>
      as_aux_lemma =>
        obtain rfl := hno hR
        have HR := hide hR
        clear hno hyes hR
        go_wp2_with fail
        refine (HRR.out w3 HB3.out).mono ?_
        rintro e w4 ⟨hB4, hno, hyes⟩
        obtain rfl := hno HR.out
        have hcv1 := conv_f (HC3.out.below hB4 (Nat.le_refl _)) cap
        have hcv2 := conv_f (HS.out.below (HB3.out.trans (hB4.mono HB3.out.size)) (Nat.le_refl _)) c
        have hd := (hB4.cell (p := ⟨g, n, none⟩) (World.block_lt_of_cell? w3 _ HD3.out)).trans HD3.out
        have HB4 := hide (HB3.out.trans (hB4.mono HB3.out.size))
        clear hno hyes hB4
        go_wp2_with fail
        refine (known_ok w4).mono ?_
        rintro e w5 ⟨rfl, hB5⟩
        go_wp2_with fail
        go_ret
        exact ⟨rfl, HB4.out.trans (hB5.mono HB4.out.size)⟩
    | some p =>
      obtain ⟨st, l⟩ := p
      as_aux_lemma =>
        obtain ⟨g2, v2, rfl, hg2, hix⟩ := hyes st l hR
        have HIX := hide hix
        have HR := hide hR
        clear hno hyes hR hix
        go_wp2_with fail
        refine (HRR.out w3 HB3.out).mono ?_
        rintro e w4 ⟨hB4, hno, hyes⟩
        obtain ⟨gr, vr, rfl, hgr, hro⟩ := hyes st l HR.out
        obtain ⟨ao, cap2, rfl, hra⟩ := hro.at
        have HIX4 := hide (HIX.out.call hB4)
        have HRA := hide hra
        have hcv1 := conv_f (HC3.out.below hB4 (Nat.le_refl _)) cap
        have hcv2 := conv_f (HS.out.below (HB3.out.trans (hB4.mono HB3.out.size)) (Nat.le_refl _)) c
        have hd := (hB4.cell (p := ⟨g, n, none⟩) (World.block_lt_of_cell? w3 _ HD3.out)).trans HD3.out
        have HB4 := hide (HB3.out.trans (hB4.mono HB3.out.size))
        clear hno hyes hB4 hro hra hgr hg2
        go_wp2_with fail
        refine (tells_ok HIX4.out HRA.out (HBN.out st l HR.out).1 (HBN.out st l HR.out).2.1 (HLL.out st l HR.out)).mono ?_
        rintro e w5 ⟨rfl, hB5⟩
        have HB5 := hide (HB4.out.trans (hB5.mono HB4.out.size))
        clear hB5 hcv1 hcv2 hd
        go_wp2_with fail
        refine (known_ok w5).mono ?_
        rintro e w6 ⟨rfl, hB6⟩
        go_wp2_with fail
        go_ret
        exact ⟨rfl, HB5.out.trans (hB6.mono HB5.out.size)⟩
end Go.Proofs.Ythbknahmmegcdaa
