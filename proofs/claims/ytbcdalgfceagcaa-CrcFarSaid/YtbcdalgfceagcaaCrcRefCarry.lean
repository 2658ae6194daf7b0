/- Walks of the reference: moved, square, Carry, Zeros, Combine. -/
import Derived.Test.YtbcdalgfceagcaaCrcRef
import Derived.Test.YtbcdalgfceagcaaCrcOpen
import Derived.Deep.RegionHeld3
namespace Go.Proofs.Ytbcdalgfceagcaa
open Go.RowKit

/-- where each bit goes by n steps -/
def mov (n j : Nat) : Value := .int .u32 (stpN n (2 ^ j) : Nat)
/-- 32 numbers -/
def movA (n : Nat) : Array Value := (rowF (mov n) 32).toArray
theorem movA_size (n : Nat) : (movA n).size = 32 := by simp [movA]
theorem movA_get (n j : Nat) (hj : j < 32) : (movA n)[j]? = some (mov n j) := by rw [movA, List.getElem?_toArray, rowF_get _ _ _ hj]
theorem movA_one (n : Nat) : (movA n).all (·.oneCell') = true := by
  rw [movA]
  simp only [List.all_toArray, List.all_eq_true]
  exact rowF_one _ _ (fun _ => rfl)
theorem movA_at (n : Nat) (w : World) : ∀ j, j < 32 → (w.alloc (.cells (movA n) 72)).cell? ⟨w.heap.size, j, none⟩ = some (mov n j) := by
  intro j hj
  rw [cell_of_row _ _ _ _ _ _ (heap_alloc_new w _), movA_get n j hj]

set_option maxHeartbeats 800000 in
theorem moved_ok (n x0 : Nat) (hx0 : x0 < 4294967296) (w : World) :
    Calls Try.prog 45 #[.agg (movA n), .int .u32 x0] w fun e w' => e = .returned (.int .u32 (stpN n x0 : Nat)) ∧ Below w.heap.size w w' := by
  have hc := movA_at n w
  have HB := hide ((Below.refl w.heap.size w).alloc (Nat.le_refl _) (.cells (movA n) 72))
  generalize movA n = cs at *
  go_enter Try.func45, Try.ntmps45
  go_wp2
  go_loop [1, 5, 6] (fun x y i => ∃ k : Nat, k ≤ 32 ∧ i = .int .i64 k ∧ x = .int .u32 (x0 / 2 ^ k : Nat) ∧ y = .int .u32 (stpN n (x0 % 2 ^ k) : Nat)) (fun _ _ i => 32 - (intOf i).toNat)
  case atStart => exact ⟨0, Nat.zero_le _, rfl, by simp, by rw [Nat.pow_zero, Nat.mod_one, stpN_zero]; rfl⟩
  case round =>
    obtain ⟨k, hk, rfl, rfl, rfl⟩ := hrel
    have hlow := hide (low_step x0 k)
    have hhigh := hide (high_step x0 k)
    have hxl : x0 / 2 ^ k < 4294967296 := Nat.lt_of_le_of_lt (Nat.div_le_self _ _) hx0
    have hyl := stpN_lt n (Nat.lt_of_le_of_lt (Nat.mod_le x0 (2 ^ k)) hx0)
    have hml : stpN n (2 ^ k) < 4294967296 ∨ k = 32 := by
      by_cases e : k = 32
      · exact .inr e
      · exact .inl (stpN_lt n (Nat.pow_lt_pow_right (by omega) (by omega : k < 32)))
    have hz : x0 / 2 ^ k ≠ 0 → k < 32 := fun h => by
      by_cases e : k = 32
      · subst e; exact absurd (Nat.div_eq_of_lt hx0) h
      · omega
    have hfin : Hid (x0 / 2 ^ k = 0 → x0 % 2 ^ k = x0) := hide (fun h => Nat.mod_eq_of_lt ((Nat.div_eq_zero_iff_lt (Nat.two_pow_pos k)).1 h))
    have hxr : stpN n (x0 % 2 ^ k) < 4294967296 → stpN n (2 ^ k) < 4294967296 → bits .xor .u32 ((stpN n (x0 % 2 ^ k) : Nat) : Int) ((stpN n (2 ^ k) : Nat) : Int) = ((stpN n ((x0 % 2 ^ k) ^^^ 2 ^ k) : Nat) : Int) := fun h1 h2 => by
      rw [stpN_xor]; exact u32xor _ _ h1 h2
    have hcell := fun h => hc k h
    unfold mov at hcell
    generalize hX : x0 / 2 ^ k = x at *
    generalize hY : stpN n (x0 % 2 ^ k) = y at *
    generalize hM : stpN n (2 ^ k) = m at *
    generalize hYM : stpN n ((x0 % 2 ^ k) ^^^ 2 ^ k) = ym at *
    have HX := hide hX
    have HY := hide hY
    have HYM := hide hYM
    clear hX hY hM hYM
    by_cases h0 : 0 < x
    · have hk32 := hz (by omega)
      have hcx := hcell hk32
      have hml' := hml.resolve_right (by omega)
      have hxx := hxr hyl hml'
      clear hz hml hxr hcell
      by_cases hodd : x % 2 = 1
      · have hb2 : ((x : Int) % 2 == 1) = true := by simp; omega
        have HL := hide (hlow.out.trans (if_pos hodd))
        clear hodd hc
        go_wp2
        go_round
        case rel => exact ⟨k + 1, by omega, by go_num, by rw [← hhigh.out]; go_num, by rw [HL.out, HYM.out]⟩
        case measure => simp [intOf]; omega
      · have hb2 : ((x : Int) % 2 == 1) = false := by simp; omega
        have HL := hide (hlow.out.trans (if_neg hodd))
        clear hodd hc
        go_wp2
        go_round
        case rel => exact ⟨k + 1, by omega, by go_num, by rw [← hhigh.out]; go_num, by rw [HL.out, HY.out]⟩
        case measure => simp [intOf]; omega
    · have H0 := hide (show x = 0 by omega)
      clear hz hml hxr hcell
      go_wp2
      go_ret
      exact ⟨by rw [← HY.out, hfin.out H0.out] <;> rfl, HB.out⟩
/-- 32 numbers in a block of the reference -/
def R32At (w : World) (g : Nat) (M : Nat → Nat) : Prop := ∃ cs : Array Value, w.heap[g]? = some (.cells cs 72 (0, 0)) ∧ cs.size = 32 ∧ ∀ j, j < 32 → cs[j]? = some (.int .u32 (M j : Nat))
theorem R32At.cell {w : World} {g : Nat} {M : Nat → Nat} (h : R32At w g M) (j : Nat) (hj : j < 32) : w.cell? ⟨g, j, none⟩ = some (.int .u32 (M j : Nat)) := by
  obtain ⟨cs, hg, _, hc⟩ := h
  simp [World.cell?, hg, hc j hj]
theorem R32At.free {w : World} {g : Nat} {M : Nat → Nat} (h : R32At w g M) (j : Nat) : w.frozen? ⟨g, j, none⟩ = false := by
  obtain ⟨cs, hg, _, _⟩ := h
  simp [World.frozen?, hg]
theorem R32At.lt {w : World} {g : Nat} {M : Nat → Nat} (h : R32At w g M) : g < w.heap.size := by
  obtain ⟨cs, hg, _⟩ := h; exact (Array.getElem?_eq_some_iff.1 hg).1
theorem R32At.same {w w' : World} {g : Nat} {M : Nat → Nat} (h : R32At w g M) (e : w'.heap[g]? = w.heap[g]?) : R32At w' g M := by unfold R32At; rw [e]; exact h
theorem R32At.congr {w : World} {g : Nat} {M M' : Nat → Nat} (h : R32At w g M) (e : ∀ j, j < 32 → M' j = M j) : R32At w g M' := by
  obtain ⟨cs, h1, h2, h3⟩ := h
  exact ⟨cs, h1, h2, fun j hj => by rw [h3 j hj, e j hj]⟩
theorem R32At.set {w : World} {g : Nat} {M M' : Nat → Nat} (h : R32At w g M) (i : Nat) (x : Nat) (hi : M' i = x) (ho : ∀ j, j ≠ i → M' j = M j) : R32At (w.setCell ⟨g, i, none⟩ (.int .u32 (x : Nat))) g M' := by
  obtain ⟨cs, hg, hz, hc⟩ := h
  refine ⟨cs.setIfInBounds i (.int .u32 (x : Nat)), ?_, by simpa using hz, fun j hj => ?_⟩
  · rw [World.setCell]
    simp only [Array.getElem?_modify, if_true, hg]
    simp
  · by_cases e : j = i
    · subst e; simp [hi, hz, hj]
    · rw [Array.getElem?_setIfInBounds_ne (by omega), hc j hj, ho j e]
theorem R32At.new (w : World) : R32At (w.alloc (.cells #[.int .u32 0, .int .u32 0, .int .u32 0, .int .u32 0, .int .u32 0, .int .u32 0, .int .u32 0, .int .u32 0, .int .u32 0, .int .u32 0, .int .u32 0, .int .u32 0, .int .u32 0, .int .u32 0, .int .u32 0, .int .u32 0, .int .u32 0, .int .u32 0, .int .u32 0, .int .u32 0, .int .u32 0, .int .u32 0, .int .u32 0, .int .u32 0, .int .u32 0, .int .u32 0, .int .u32 0, .int .u32 0, .int .u32 0, .int .u32 0, .int .u32 0, .int .u32 0] 72)) w.heap.size (fun _ => 0) := by
  refine ⟨_, heap_alloc_new _ _, rfl, fun j hj => ?_⟩
  have e : (#[.int .u32 0, .int .u32 0, .int .u32 0, .int .u32 0, .int .u32 0, .int .u32 0, .int .u32 0, .int .u32 0, .int .u32 0, .int .u32 0, .int .u32 0, .int .u32 0, .int .u32 0, .int .u32 0, .int .u32 0, .int .u32 0, .int .u32 0, .int .u32 0, .int .u32 0, .int .u32 0, .int .u32 0, .int .u32 0, .int .u32 0, .int .u32 0, .int .u32 0, .int .u32 0, .int .u32 0, .int .u32 0, .int .u32 0, .int .u32 0, .int .u32 0, .int .u32 0] : Array Value) = Array.replicate 32 (.int .u32 0) := rfl
  rw [e]
  simp [hj]
/-- 32 noughts -/
def z32 : Array Value := #[.int .u32 0, .int .u32 0, .int .u32 0, .int .u32 0, .int .u32 0, .int .u32 0, .int .u32 0, .int .u32 0, .int .u32 0, .int .u32 0, .int .u32 0, .int .u32 0, .int .u32 0, .int .u32 0, .int .u32 0, .int .u32 0, .int .u32 0, .int .u32 0, .int .u32 0, .int .u32 0, .int .u32 0, .int .u32 0, .int .u32 0, .int .u32 0, .int .u32 0, .int .u32 0, .int .u32 0, .int .u32 0, .int .u32 0, .int .u32 0, .int .u32 0, .int .u32 0]

/-- the memory of square, in round k -/
structure SqAt (n : Nat) (w wr : World) (k : Nat) : Prop where
  src : wr.heap[w.heap.size]? = some (.cells (movA n) 72 (0, 0))
  res : wr.heap[w.heap.size + 1]? = some (.cells z32 72 (0, 0))
  new : R32At wr (w.heap.size + 1 + 1) (fun j => if j < k then stpN n (stpN n (2 ^ j)) else 0)
  below : Below w.heap.size w wr
theorem SqAt.keep {n k : Nat} {w wr w' : World} (h : SqAt n w wr k) (hb : Below wr.heap.size wr w') : SqAt n w w' k :=
  have hl := h.new.lt
  ⟨(hb.block _ (by omega)).trans h.src, (hb.block _ (by omega)).trans h.res, h.new.same (hb.block _ hl), h.below.trans (hb.mono (h.below.size))⟩
theorem SqAt.step {n k : Nat} {w wr : World} (h : SqAt n w wr k) : SqAt n w (wr.setCell ⟨w.heap.size + 1 + 1, k, none⟩ (.int .u32 (stpN n (stpN n (2 ^ k)) : Nat))) (k + 1) :=
  ⟨(Below.heap_setCell _ _ _ _ (show w.heap.size ≠ w.heap.size + 1 + 1 by omega)).trans h.src, (Below.heap_setCell _ _ _ _ (by simp)).trans h.res,
   h.new.set (M' := fun j => if j < k + 1 then stpN n (stpN n (2 ^ j)) else 0) k _ (by simp) (fun j hj => by by_cases e : j < k <;> simp [e, show (j < k + 1) = (j < k) by simp; omega]),
   below_setAt h.below (by omega)⟩
theorem SqAt.facts {n k : Nat} {w wr : World} (h : SqAt n w wr k) (hk : k < 32) :
    wr.cell? ⟨w.heap.size + 1 + 1, k, none⟩ = some (.int .u32 0) ∧ wr.frozen? ⟨w.heap.size + 1 + 1, k, none⟩ = false := by
  refine ⟨?_, h.new.free k⟩
  have := h.new.cell k hk
  simpa using this
theorem SqAt.reads {n k m : Nat} {w wr : World} (h : SqAt n w wr m) (hk : k < 32) :
    wr.rangeAt w.heap.size 0 (rowF (mov n) 32) ∧ wr.cell? ⟨w.heap.size, k, none⟩ = some (.int .u32 (stpN n (2 ^ k) : Nat)) := by
  refine ⟨fun j v hv => ?_, ?_⟩
  · rw [cell_of_row _ _ _ _ _ _ h.src, Nat.zero_add, movA, List.getElem?_toArray, hv]
  · rw [cell_of_row _ _ _ _ _ _ h.src, movA_get _ _ hk]; rfl
theorem SqAt.start (n : Nat) (w : World) : SqAt n w (((w.alloc (.cells (movA n) 72)).alloc (.cells z32 72)).alloc (.cells z32 72)) 0 := by
  refine ⟨?_, ?_, ?_, ?_⟩
  · rw [Below.heap_alloc _ _ _ (by simp; omega), Below.heap_alloc _ _ _ (by simp)]; exact heap_alloc_new w _
  · rw [Below.heap_alloc _ _ _ (by simp)]
    have := heap_alloc_new (w.alloc (.cells (movA n) 72)) (.cells z32 72)
    simpa using this
  · have e : w.heap.size + 1 + 1 = ((w.alloc (.cells (movA n) 72)).alloc (.cells z32 72)).heap.size := by simp
    rw [e]
    exact (R32At.new ((w.alloc (.cells (movA n) 72)).alloc (.cells z32 72))).congr (fun j hj => if_neg (Nat.not_lt_zero j))
  · exact (((Below.refl _ _).alloc (Nat.le_refl _) _).alloc (by simp) _).alloc (by simp; omega) _

set_option maxHeartbeats 3200000 in
set_option maxRecDepth 100000 in
theorem square_ok (n : Nat) (w : World) :
    Calls Try.prog 46 #[.agg (movA n)] w fun e w' => e = .returned (.agg (movA (n + n))) ∧ Below w.heap.size w w' := by
  have hst := SqAt.start n w
  unfold z32 at hst
  have HST := hide hst
  clear hst
  have hu : Try.prog.underlying 72 = some (.array 32 23) := by kernel_rfl
  have hi32 : (Try.prog.info? 72).map (·.size) = some (rowF (mov n) 32).length := by rw [rowF_length]; kernel_rfl
  generalize hMA : movA n = MA at *
  have HMA := hide hMA
  go_enter Try.func46, Try.ntmps46
  go_wp2
  go_loopw [4] (fun i wr => ∃ k : Nat, k ≤ 32 ∧ i = .int .i64 k ∧ SqAt n w wr k) (fun i _ => 32 - (intOf i).toNat)
  case atStart => exact ⟨0, Nat.zero_le _, rfl, HST.out⟩
  case round =>
    obtain ⟨k, hk, rfl, hS⟩ := hrel
    by_cases hlt : k < 32
    · obtain ⟨f1, f2⟩ := hS.reads hlt
      have hk0 : (0 : Int) ≤ (k : Int) := by omega
      have hk1 : (k : Int) < 32 := by omega
      have HS := hide hS
      have HMV := hide (fun w' => moved_ok n (stpN n (2 ^ k)) (stpN_lt n (Nat.pow_lt_pow_right (by omega) hlt : (2 : Nat) ^ k < 2 ^ 32)) w')
      clear hS
      go_wp2_with fail
      go_region_held3 (fun w' => w'.rangeAt w.heap.size 0 (rowF (mov n) 32) ∧ w'.cell? ⟨w.heap.size, k, none⟩ = some (.int .u32 (stpN n (2 ^ k) : Nat)))
        (first | exact (HS.out.keep (w' := wr.drew) (belowDrew (Below.refl _ _))).reads hlt | exact HS3.out.reads hlt | exact HS3.out.step.reads hlt)
        (first | (go_at_call 45; refine (HMV.out _).mono ?_; rintro e w3 ⟨rfl, hB3⟩; have HS3 := hide ((HS.out.keep (w' := wr.drew) (belowDrew (Below.refl _ _))).keep hB3); have hf3 := (HS3.out.facts hlt).1; have hf4 := (HS3.out.facts hlt).2))
      go_wp2
      go_roundw
      case rel => exact ⟨k + 1, by omega, by go_num, HS3.out.step⟩
      case measure => simp [intOf]; omega
    · have hk32 : k = 32 := by omega
      subst hk32
      obtain ⟨cs, hg1, hg2, hg3⟩ := hS.new
      have hlit : cs = movA (n + n) := by
        apply Array.ext_getElem?
        intro j
        by_cases hj : j < 32
        · rw [hg3 j hj, movA_get _ _ hj, mov, stpN_add]
          simp only [hj, if_true]
        · rw [Array.getElem?_eq_none (by omega), Array.getElem?_eq_none (by rw [movA_size]; omega)]
      have hone : cs.all (·.oneCell') = true := by rw [hlit]; exact movA_one _
      have HLIT := hide hlit
      have hsz : (Try.prog.info? 72).map (·.size) = some cs.size := by rw [hg2]; kernel_rfl
      have hz : z32.size = cs.size := by rw [hg2]; rfl
      have HG1 := hide hg1
      have HR := hide hS.res
      have HB2 := hide (below_setRow' hS.below (Nat.le_succ w.heap.size) cs)
      generalize z32 = zz at *
      clear hS hg1 hg2 hg3 hlit
      go_wp2_with (first
        | (refine wpList_load_row rfl 72 (.tmp 3) rfl (w.heap.size + 1 + 1) rfl 72 cs (0, 0) _ HG1.out Try.underlying72 rfl hsz ?_)
        | (refine wpList_store_row rfl 72 (.tmp 2) (.tmp 16) rfl (w.heap.size + 1) cs rfl rfl 72 _ HR.out hsz hz hone ?_))
      refine bodyPost_ret (results_cell_row rfl _ _ (w.heap.size + 1) 72 cs (0, 0) _ rfl (setRow_heap _ _ _ _ _ _ HR.out) Try.underlying72 rfl hsz) rfl ?_
      exact ⟨by rw [HLIT.out], HB2.out⟩
set_option maxHeartbeats 3200000 in
set_option maxRecDepth 100000 in
theorem refCarry_ok (x0 : Nat) (hx0 : x0 < 4294967296) (n : Int) (hn : n ≤ 9223372036854775807) (w : World) :
    Calls Try.prog 39 #[.int .u32 x0, .int .i64 n] w fun e w' => e = .returned (.int .u32 (stpN (8 * n.toNat) x0 : Nat)) ∧ Below w.heap.size w w' := by
  have HST := hide (show R32At (w.alloc (.cells z32 72)) w.heap.size (fun j => if j < 0 then stpN 8 (2 ^ j) else 0) from (R32At.new w).congr (fun j hj => if_neg (Nat.not_lt_zero j)))
  have HB0 := hide ((Below.refl w.heap.size w).alloc (Nat.le_refl _) (.cells z32 72))
  unfold z32 at HST HB0
  go_enter Try.func39, Try.ntmps39
  go_wp2
  go_loopw [6] (fun i wr => ∃ k : Nat, k ≤ 32 ∧ i = .int .i64 k ∧ R32At wr w.heap.size (fun j => if j < k then stpN 8 (2 ^ j) else 0) ∧ Below w.heap.size w wr) (fun i _ => 32 - (intOf i).toNat)
  case atStart => exact ⟨0, Nat.zero_le _, rfl, HST.out, HB0.out⟩
  case round =>
    clear HST HB0
    obtain ⟨k, hk, rfl, hU, hB⟩ := hrel
    by_cases hlt : k < 32
    · have hp : (2 : Nat) ^ k < 4294967296 := Nat.pow_lt_pow_right (by omega) (by omega : k < 32)
      have HPE := hide (show ((2 : Int) ^ k % 4294967296) = ((2 ^ k : Nat) : Int) by
        rw [show ((2 : Int) ^ k) = ((2 ^ k : Nat) : Int) from (Int.natCast_pow 2 k).symm]
        exact Int.emod_eq_of_lt (Int.natCast_nonneg _) (Int.ofNat_lt.2 hp))
      have HE := hide (Eight_ok (2 ^ k) hp)
      have hcx := hU.cell k hlt
      have hfz := hU.free k
      have HU := hide (hU.set (M' := fun j => if j < k + 1 then stpN 8 (2 ^ j) else 0) k (stpN 8 (2 ^ k)) (by simp) (fun j hj => by by_cases e : j < k <;> simp [e, show (j < k + 1) = (j < k) by simp; omega]))
      have HB := hide (below_setAt (i := k) (u := .int .u32 (stpN 8 (2 ^ k) : Nat)) hB (Nat.le_refl _))
      clear hU hB hp
      go_wp2_with fail
      rw [HPE.out]
      refine (HE.out _).mono ?_
      rintro e w' ⟨rfl, rfl⟩
      generalize stpN 8 (2 ^ k) = v8 at *
      go_wp2
      go_roundw
      case rel => exact ⟨k + 1, by omega, by go_num, HU.out, HB.out⟩
      case measure => simp [intOf]; omega
    · have hk32 : k = 32 := by omega
      subst hk32
      have hrow : wr.heap[w.heap.size]? = some (.cells (movA (8 * 2 ^ 0)) 72 (0, 0)) := by
        obtain ⟨cs, hg1, hg2, hg3⟩ := hU
        rw [hg1]
        have hlit : cs = movA (8 * 2 ^ 0) := by
          apply Array.ext_getElem?
          intro j
          by_cases hj : j < 32
          · rw [hg3 j hj, movA_get _ _ hj, mov]
            simp only [hj, if_true, Nat.pow_zero, Nat.mul_one]
          · rw [Array.getElem?_eq_none (by omega), Array.getElem?_eq_none (by rw [movA_size]; omega)]
        rw [hlit]
      have HROW := hide hrow
      have HBR := hide hB
      clear hrow hU hB
      by_cases hneg : n < 0
      · have hd : decide (0 < n) = false := decide_eq_false (by omega)
        have HN0 : Hid (n.toNat = 0) := hide (by omega)
        clear hneg
        go_wp2_with fail
        refine wp_loop_rounds 1 ?_
        rw [rounds_succ]
        go_wp2
        go_ret
        exact ⟨by rw [HN0.out] <;> rfl, HBR.out⟩
      · obtain ⟨N, rfl⟩ := Int.eq_ofNat_of_zero_le (show 0 ≤ n by omega)
        go_wp2_with fail
        go_loopw [0, 1] (fun x n' wr => ∃ t : Nat, n' = .int .i64 (N / 2 ^ t : Nat) ∧ x = .int .u32 (stpN (8 * (N % 2 ^ t)) x0 : Nat) ∧ Hid (wr.heap[w.heap.size]? = some (.cells (movA (8 * 2 ^ t)) 72 (0, 0))) ∧ Below w.heap.size w wr) (fun _ n' _ => (intOf n').toNat)
        case atStart => exact ⟨0, by simp, by rw [Nat.pow_zero, Nat.mod_one]; rfl, HROW, HBR.out⟩
        case round =>
          clear HROW HBR
          obtain ⟨t, rfl, rfl, HROW, hB⟩ := hrel
          have hlow := hide (low_step N t)
          have hhigh := hide (high_step N t)
          have hNt : N / 2 ^ t ≤ 9223372036854775807 := Nat.le_trans (Nat.div_le_self _ _) (by omega)
          have hfin : Hid (N / 2 ^ t = 0 → N % 2 ^ t = N) := hide (fun h => Nat.mod_eq_of_lt ((Nat.div_eq_zero_iff_lt (Nat.two_pow_pos t)).1 h))
          have hxl := stpN_lt (8 * (N % 2 ^ t)) hx0
          have hodd1 : Hid (stpN (8 * 2 ^ t) (stpN (8 * (N % 2 ^ t)) x0) = stpN (8 * (N % 2 ^ t + 2 ^ t)) x0) := hide (by rw [← stpN_add]; congr 1; omega)
          have HMV := hide (moved_ok (8 * 2 ^ t) (stpN (8 * (N % 2 ^ t)) x0) hxl)
          have HSQ : Hid (∀ w, Calls Try.prog 46 #[.agg (movA (8 * 2 ^ t))] w fun e w' => e = .returned (.agg (movA (8 * 2 ^ (t + 1)))) ∧ Below w.heap.size w w') := hide (fun w => by
            have := square_ok (8 * 2 ^ t) w
            rwa [show 8 * 2 ^ t + 8 * 2 ^ t = 8 * 2 ^ (t + 1) by rw [Nat.pow_succ]; omega] at this)
          have hsz : (Try.prog.info? 72).map (·.size) = some (movA (8 * 2 ^ t)).size := by rw [movA_size]; kernel_rfl
          have hsz2 : (Try.prog.info? 72).map (·.size) = some (movA (8 * 2 ^ (t + 1))).size := by rw [movA_size]; kernel_rfl
          have hss : (movA (8 * 2 ^ t)).size = (movA (8 * 2 ^ (t + 1))).size := by rw [movA_size, movA_size]
          have hone := movA_one (8 * 2 ^ (t + 1))
          generalize movA (8 * 2 ^ t) = A1 at *
          generalize hA2 : movA (8 * 2 ^ (t + 1)) = A2 at *
          have HA2 := hide hA2
          generalize hV : N / 2 ^ t = v at *
          generalize hX : stpN (8 * (N % 2 ^ t)) x0 = x at *
          have HV := hide hV
          have HX := hide hX
          clear hV hX hA2
          by_cases h0 : 0 < v
          · by_cases hodd : v % 2 = 1
            · have hb3 : ((v : Int) % 2 == 1) = true := by simp; omega
              have HL := hide (hlow.out.trans (if_pos hodd))
              have HB := hide hB
              clear hodd hB
              go_wp2_with (first | (refine wpList_load_row rfl 72 (.tmp 5) rfl w.heap.size rfl 72 A1 (0, 0) _ HROW.out Try.underlying72 rfl hsz ?_))
              refine (HMV.out _).mono ?_
              rintro e w1 ⟨rfl, hB1⟩
              have HROW1 := hide ((hB1.block _ (Array.getElem?_eq_some_iff.1 HROW.out).1).trans HROW.out)
              have HB1 := hide (HB.out.trans (hB1.mono HB.out.size))
              clear hB1
              go_wp2_with (first | (refine wpList_load_row rfl 72 (.tmp 5) rfl w.heap.size rfl 72 A1 (0, 0) _ HROW1.out Try.underlying72 rfl hsz ?_))
              refine (HSQ.out _).mono ?_
              rintro e w2 ⟨rfl, hB2⟩
              have HROW2 := hide ((hB2.block _ (Array.getElem?_eq_some_iff.1 HROW1.out).1).trans HROW1.out)
              have HB2 := hide (HB1.out.trans (hB2.mono HB1.out.size))
              clear hB2
              have HROW3 := hide (setRow_heap _ _ _ A2 _ _ HROW2.out)
              have HB3 := hide (below_setRow' HB2.out (Nat.le_refl _) A2)
              go_wp2_with (first | (refine wpList_store_row rfl 72 (.tmp 5) (.tmp 25) rfl w.heap.size A2 rfl rfl 72 _ HROW2.out hsz2 hss hone ?_))
              go_roundw
              case rel => exact ⟨t + 1, by rw [← hhigh.out]; go_num, by rw [HL.out, ← join_xor1 N t, ← hodd1.out], by rw [HA2.out]; exact HROW3, HB3.out⟩
              case measure => simp [intOf]; omega
            · have hb3 : ((v : Int) % 2 == 1) = false := by simp; omega
              have HL := hide (hlow.out.trans (if_neg hodd))
              have HB1 := hide hB
              have HROW1 := HROW
              clear hodd hB
              go_wp2_with (first | (refine wpList_load_row rfl 72 (.tmp 5) rfl w.heap.size rfl 72 A1 (0, 0) _ HROW1.out Try.underlying72 rfl hsz ?_))
              refine (HSQ.out _).mono ?_
              rintro e w2 ⟨rfl, hB2⟩
              have HROW2 := hide ((hB2.block _ (Array.getElem?_eq_some_iff.1 HROW1.out).1).trans HROW1.out)
              have HB2 := hide (HB1.out.trans (hB2.mono HB1.out.size))
              clear hB2
              have HROW3 := hide (setRow_heap _ _ _ A2 _ _ HROW2.out)
              have HB3 := hide (below_setRow' HB2.out (Nat.le_refl _) A2)
              go_wp2_with (first | (refine wpList_store_row rfl 72 (.tmp 5) (.tmp 25) rfl w.heap.size A2 rfl rfl 72 _ HROW2.out hsz2 hss hone ?_))
              go_roundw
              case rel => exact ⟨t + 1, by rw [← hhigh.out]; go_num, by rw [HL.out, HX.out], by rw [HA2.out]; exact HROW3, HB3.out⟩
              case measure => simp [intOf]; omega
          · have H0 := hide (show v = 0 by omega)
            go_wp2
            go_ret
            exact ⟨by rw [← HX.out, hfin.out H0.out, Int.toNat_natCast] <;> rfl, hB⟩
theorem refZeros_ok (n : Int) (hn : n ≤ 9223372036854775807) (w : World) :
    Calls Try.prog 15 #[.int .i64 n] w fun e w' => e = .returned (.int .u32 (notN (stpN (8 * n.toNat) 4294967295) : Nat)) ∧ Below w.heap.size w w' := by
  have hv := stpN_lt (x := 4294967295) (8 * n.toNat) (by omega)
  have HCV : Hid (Calls Try.prog 39 #[.int .u32 4294967295, .int .i64 n] w fun e w' => e = .returned (.int .u32 (stpN (8 * n.toNat) 4294967295 : Nat)) ∧ Below w.heap.size w w') := hide (refCarry_ok 4294967295 (by omega) n hn w)
  have HT := hide (turned_ok _ hv)
  generalize stpN (8 * n.toNat) 4294967295 = v at *
  go_enter Try.func15, Try.ntmps15
  go_wp2_with fail
  refine HCV.out.mono ?_
  rintro e w' ⟨rfl, hB⟩
  go_wp2_with fail
  refine (HT.out _).mono ?_
  rintro e w2 ⟨rfl, rfl⟩
  go_wp2
  go_ret
  exact ⟨rfl, hB⟩

theorem refCombine_ok (a b : Nat) (ha : a < 4294967296) (hb : b < 4294967296) (n : Int) (hn : n ≤ 9223372036854775807) (w : World) :
    Calls Try.prog 17 #[.int .u32 a, .int .u32 b, .int .i64 n] w fun e w' => e = .returned (.int .u32 (stpN (8 * n.toNat) a ^^^ b : Nat)) ∧ Below w.heap.size w w' := by
  have hv := stpN_lt (8 * n.toNat) ha
  have HCV := hide (refCarry_ok a ha n hn w)
  have hnn := u32xor _ b hv hb
  generalize stpN (8 * n.toNat) a = v at *
  go_enter Try.func17, Try.ntmps17
  go_wp2_with fail
  refine HCV.out.mono ?_
  rintro e w' ⟨rfl, hB⟩
  go_wp2
  go_ret
  exact ⟨rfl, hB⟩
end Go.Proofs.Ytbcdalgfceagcaa
