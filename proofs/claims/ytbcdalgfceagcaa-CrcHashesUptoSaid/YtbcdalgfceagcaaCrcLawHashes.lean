/- CrcHashes: a sum that goes on, call by call. (Written by wip/genhashes.py.) -/
import Derived.Test.YtbcdalgfceagcaaCrcHash
import Derived.Deep.DeepCutAuto
namespace Go.Proofs.Ytbcdalgfceagcaa
open Go.RowKit

/-- asks in memory -/
structure AsksAt (w : World) (a : Option Addr) (n : Nat) (K : Nat → Int) (A : Nat → Option Addr) (C : Nat → Nat) (l : Nat → List Nat) : Prop where
  at_ : ∀ i, i < n → ∃ b off, a = some ⟨b, off, none⟩ ∧ w.cell? ⟨b, off + i * 2, none⟩ = some (.int .i64 (K i)) ∧ w.cell? ⟨b, off + i * 2 + 1, none⟩ = some (.slice (A i) (l i).length (C i))
  text : ∀ i, i < n → BytesAt w (A i) (l i)
  small : ∀ i, i < n → (l i).length ≤ 9223372036854775807 ∧ ∀ c ∈ l i, c < 256
/-- how many bytes there were -/
def lenS (l : Nat → List Nat) : Nat → Nat
  | 0 => 0
  | k + 1 => lenS l k + (l k).length
/-- the bytes so far -/
def hashB (K : Nat → Int) (l : Nat → List Nat) : Nat → List Nat
  | 0 => []
  | k + 1 => if K k = 0 then hashB K l k ++ l k else if K k = 1 then [] else hashB K l k
theorem hashB_len (K : Nat → Int) (l : Nat → List Nat) : ∀ k, (hashB K l k).length ≤ lenS l k
  | 0 => Nat.le_refl _
  | k + 1 => by
    have h := hashB_len K l k
    unfold hashB lenS
    split
    · rw [List.length_append]; omega
    · split
      · simp
      · omega
theorem hashB_lt (K : Nat → Int) (l : Nat → List Nat) (n : Nat) (h : ∀ i, i < n → ∀ c ∈ l i, c < 256) : ∀ k, k ≤ n → ∀ c ∈ hashB K l k, c < 256
  | 0, _, c, hc => by cases hc
  | k + 1, hk, c, hc => by
    have ih := hashB_lt K l n h k (by omega)
    unfold hashB at hc
    split at hc
    · rcases List.mem_append.1 hc with h1 | h1
      · exact ih c h1
      · exact h k (by omega) c h1
    · split at hc
      · cases hc
      · exact ih c hc
theorem lenS_le (l : Nat → List Nat) : ∀ (n k : Nat), k ≤ n → lenS l k ≤ lenS l n
  | 0, k, h => by rw [show k = 0 by omega]; exact Nat.le_refl _
  | n + 1, k, h => by
    by_cases e : k = n + 1
    · rw [e]; exact Nat.le_refl _
    · have := lenS_le l n k (by omega)
      show lenS l k ≤ lenS l n + (l n).length
      omega

theorem OwnBytes.grown {w w' : World} {base g s n : Nat} {v : Value} {l : List Nat} (h : OwnBytes w base v l) (hH : HashAt w g s n) (hg : w.grownBy w' (some g)) : OwnBytes w' base v l :=
  World.ownsRow.kept h hg (.inr (hH.not_row h))
theorem BytesAt.grown {w w' : World} {a : Option Addr} {l : List Nat} {B : Nat} {w0 : World} (h : BytesAt w0 a l) (hb : Below B w0 w) (hB : w0.heap.size ≤ B) (hBw : B ≤ w.heap.size) {g : Nat} (hBg : B ≤ g) (hg : w.grownBy w' (some g)) : BytesAt w' a l :=
  h.below (below_of_grown hb hg hBg hBw) hB

theorem write_two (a : Option Addr) (c : Nat) (l : List Nat) (w0 w : World) (g s m : Nat) (hs : s < 4294967296) (hl : ∀ c ∈ l, c < 256) (hb : BytesAt w0 a l) (hB : Below w0.heap.size w0 w) (hlo : w0.heap.size ≤ g)
    (hg : HashAt w g s m) (hm : m + l.length ≤ 1000000) :
    Calls Try.prog 31 #[.pointer (some ⟨g, 0, none⟩), .slice (some ⟨w.heap.size, 0, none⟩) 2 2] (w.alloc (.cells #[.slice a l.length c, .slice none 0 0] 22))
      fun e w' => e = .returned (.int .i64 0) ∧ HashAt w' g (moreL s l) (m + l.length) ∧ w.grownBy w' (some g) := by
  have hgl := hg.lt
  have hal : Below w.heap.size w (w.alloc (.cells #[.slice a l.length c, .slice none 0 0] 22)) := (Below.refl _ _).alloc (Nat.le_refl _) _
  have hJ : joinL (fun i => if i = 0 then l else []) 2 = l := by simp [joinL, List.range_succ]
  have hkn : (w.alloc (.cells #[.slice a l.length c, .slice none 0 0] 22)).heap.size = w.heap.size + 1 := by simp
  have h := Write_ok (some ⟨w.heap.size, 0, none⟩) 2 2 (fun i => if i = 0 then a else none) (fun i => if i = 0 then c else 0) (fun i => if i = 0 then l else [])
    (w.alloc (.cells #[.slice a l.length c, .slice none 0 0] 22)) g s m hs (by omega) (fun wr hgr => by
      have hrow : wr.heap[w.heap.size]? = some (.cells #[.slice a l.length c, .slice none 0 0] 22 (0, 0)) :=
        (hgr.block w.heap.size (by rw [hkn]; omega) (by intro e; injection e with e; omega)).trans (heap_alloc_new w _)
      refine ⟨fun i hi => ?_, fun i hi => ?_, fun i hi => ?_⟩
      · match i, hi with
        | 0, _ => exact ⟨_, _, rfl, by rw [cell_of_row _ _ _ _ _ _ hrow]; rfl⟩
        | 1, _ => exact ⟨_, _, rfl, by rw [cell_of_row _ _ _ _ _ _ hrow]; rfl⟩
      · match i, hi with
        | 0, _ => exact hb.below (below_of_grown (hB.trans (hal.mono hB.size)) hgr hlo (by rw [hkn]; have := hB.size; omega)) (Nat.le_refl _)
        | 1, _ => exact fun j hj => absurd hj (by simp)
      · match i, hi with
        | 0, _ => exact ⟨by show l.length ≤ _; omega, hl⟩
        | 1, _ => exact ⟨by simp, by simp⟩) (hg.below hal) (fun k hk => by
      match k, hk with
      | 0, _ => simp [joinL]; omega
      | 1, _ => simp [joinL, List.range_succ]; omega
      | 2, _ => rw [hJ]; omega)
  rw [hJ] at h
  exact h.mono (fun e w' h => ⟨h.1, h.2.1, grown_trans (grown_of_below hal _) h.2.2⟩)

theorem write_x (w : World) (g s m : Nat) (hs : s < 4294967296) (hg : HashAt w g s m) (hm : m ≤ 1000000) :
    Calls Try.prog 31 #[.pointer (some ⟨g, 0, none⟩), .slice (some ⟨w.heap.size + 1, 0, none⟩) 1 1] ((w.alloc (.cells #[.int .u8 120] 5 (1, 2))).alloc (.cells #[.slice (some ⟨w.heap.size, 0, none⟩) 1 1] 22))
      fun e w' => e = .returned (.int .i64 0) ∧ w.grownBy w' (some g) := by
  have hgl := hg.lt
  have hal : Below w.heap.size w ((w.alloc (.cells #[.int .u8 120] 5 (1, 2))).alloc (.cells #[.slice (some ⟨w.heap.size, 0, none⟩) 1 1] 22)) := ((Below.refl _ _).alloc (Nat.le_refl _) _).alloc (by simp) _
  have hkn : ((w.alloc (.cells #[.int .u8 120] 5 (1, 2))).alloc (.cells #[.slice (some ⟨w.heap.size, 0, none⟩) 1 1] 22)).heap.size = w.heap.size + 2 := by simp
  have hk1 : (w.alloc (.cells #[.int .u8 120] 5 (1, 2))).heap.size = w.heap.size + 1 := by simp
  have hJ : joinL (fun _ => [120]) 1 = [120] := by simp [joinL]
  have h := Write_ok (some ⟨w.heap.size + 1, 0, none⟩) 1 1 (fun _ => some ⟨w.heap.size, 0, none⟩) (fun _ => 1) (fun _ => [120])
    ((w.alloc (.cells #[.int .u8 120] 5 (1, 2))).alloc (.cells #[.slice (some ⟨w.heap.size, 0, none⟩) 1 1] 22)) g s m hs (by omega) (fun wr hgr => by
      have hrow1 : wr.heap[w.heap.size + 1]? = some (.cells #[.slice (some ⟨w.heap.size, 0, none⟩) 1 1] 22 (0, 0)) :=
        (hgr.block (w.heap.size + 1) (by rw [hkn]; omega) (by intro e; injection e with e; omega)).trans (by rw [← hk1]; exact heap_alloc_new _ _)
      have hrow0 : wr.heap[w.heap.size]? = some (.cells #[.int .u8 120] 5 (1, 2)) :=
        (hgr.block w.heap.size (by rw [hkn]; omega) (by intro e; injection e with e; omega)).trans
          (((Below.refl _ (w.alloc (.cells #[.int .u8 120] 5 (1, 2)))).alloc (Nat.le_refl _) _).block w.heap.size (by rw [hk1]; omega) |>.trans (heap_alloc_new w _))
      refine ⟨fun i hi => ?_, fun i hi => ?_, fun i hi => ⟨by simp, by simp⟩⟩
      · obtain rfl : i = 0 := by omega
        exact ⟨_, _, rfl, by rw [cell_of_row _ _ _ _ _ _ hrow1]; rfl⟩
      · intro j hj
        obtain rfl : j = 0 := by simp at hj; omega
        exact ⟨_, _, rfl, by rw [cell_of_row _ _ _ _ _ _ hrow0]; rfl⟩) (hg.below hal) (fun k hk => by
      match k, hk with
      | 0, _ => simp [joinL]; omega
      | 1, _ => simp [joinL]; omega)
  exact h.mono (fun e w' h => ⟨h.1, grown_trans (grown_of_below hal _) h.2.2⟩)

structure HSt (w wr : World) (g : Nat) (b : Value) (l : List Nat) : Prop where
  lo : w.heap.size ≤ g
  at_ : HashAt wr g (sumL l) l.length
  own : OwnBytes wr w.heap.size b l
  bel : Below w.heap.size w wr
theorem HSt.call {w wr w' : World} {g : Nat} {b : Value} {l : List Nat} (h : HSt w wr g b l) (hB : Below wr.heap.size wr w') : HSt w w' g b l :=
  ⟨h.lo, h.at_.below hB, kept_below h.own hB, h.bel.trans (hB.mono h.bel.size)⟩
theorem HSt.copied {w wr w' : World} {g g2 : Nat} {b : Value} {l : List Nat} (h : HSt w wr g b l) (hlo : w.heap.size ≤ g2) (h2 : HashAt wr g2 (sumL l) l.length) (hne : g ≠ g2) (hg : wr.grownBy w' (some g)) : HSt w w' g2 b l :=
  ⟨hlo, h2.grown hg (by intro e; injection e with e; exact hne e.symm), h.own.grown h.at_ hg, below_of_grown h.bel hg h.lo h.bel.size⟩
theorem HSt.reset {w wr w' : World} {g : Nat} {b : Value} {l : List Nat} (h : HSt w wr g b l) (h2 : HashAt w' g 0 0) (hg : wr.grownBy w' (some g)) : HSt w w' g (.slice none 0 0) [] :=
  ⟨h.lo, h2, ⟨rfl, .inl ⟨rfl, rfl⟩⟩, below_of_grown h.bel hg h.lo h.bel.size⟩
theorem sum_nil : sumL [] = 0 := by decide +kernel

set_option maxHeartbeats 6400000 in
set_option maxRecDepth 100000 in
theorem hashes_walk (a : Option Addr) (n c : Nat) (K : Nat → Int) (A : Nat → Option Addr) (C : Nat → Nat) (l : Nat → List Nat) (zero : Bool) (w : World) (hn : n ≤ 9223372036854775807) (h : AsksAt w a n K A C l) (hnil : ∀ i, i < n → A i = none → (l i).length = 0 ∧ C i = 0) :
    Calls Try.prog 9 #[.slice a n c, .bool zero] w fun e w' => e = .returned (.bool true) ∧ Below w.heap.size w w' := by
  have HAT := hide h.at_
  have HTX := hide h.text
  have HSM := hide h.small
  have HNIL := hide hnil
  have HM : Hid (∀ k, lenS l (k + 1) = lenS l k + (l k).length) := hide (fun k => rfl)
  have HM0 : Hid (lenS l 0 = 0) := hide rfl
  have HML := hide (lenS_le l n)
  have HBL := hide (hashB_len K l)
  have HBT := hide (hashB_lt K l n (fun i hi => (h.small i hi).2))
  have HB0 : Hid (hashB K l 0 = []) := hide rfl
  have HBS : Hid (∀ k, hashB K l (k + 1) = if K k = 0 then hashB K l k ++ l k else if K k = 1 then [] else hashB K l k) := hide (fun k => rfl)
  obtain ⟨i0, hi, hz0, hz1, hz2⟩ := info_parts Try.info5
  have KC := hide (fun (w : World) (C : Array Value) (n c : Nat) => Lib.run_convert_bytes_const (P := Try.prog) w 22 5 C n c Try.underlying22 Try.underlying5)
  clear h hnil
  obtain ⟨M, hMe⟩ : ∃ M, M = lenS l := ⟨_, rfl⟩
  obtain ⟨S, hSe⟩ : ∃ S, S = hashB K l := ⟨_, rfl⟩
  rw [← hMe] at HM HM0 HML HBL
  rw [← hSe] at HBL HBT HB0 HBS
  clear hMe hSe
  go_enter Try.func9, Try.ntmps9
  by_cases h40 : 40 < n
  · have e1 : decide ((40 : Int) < (n : Int)) = true := decide_eq_true (by omega)
    have e1' : decide (40 < n) = true := decide_eq_true h40
    clear HAT HTX HSM HNIL HM HM0 HML HBL HBT HB0 HBS hi
    go_wp2_with fail
    refine (works_ok _).mono ?_
    rintro e w9 ⟨rfl, hB⟩
    go_wp2
    go_ret
    exact ⟨rfl, hB⟩
  have e1 : decide ((40 : Int) < (n : Int)) = false := decide_eq_false (by omega)
  have e1' : decide (40 < n) = false := decide_eq_false h40
  have HN := hide h40
  go_wp2_with fail
  clear e1 e1'
  go_loop [5, 6] (fun s i => ∃ k : Nat, k ≤ n ∧ i = .int .i64 k ∧ s = .int .i64 (M k : Nat) ∧ M k ≤ 20000 * k) (fun _ i => n - (intOf i).toNat)
  case atStart => exact ⟨0, Nat.zero_le _, rfl, by rw [HM0.out]; rfl, by rw [HM0.out]; omega⟩
  case round =>
    obtain ⟨k, hk, rfl, rfl, hMk⟩ := hrel
    by_cases hlt : k < n
    · have e1 : decide ((k : Int) < (n : Int)) = true := decide_eq_true (by omega)
      have e1' : decide (k < n) = true := decide_eq_true hlt
      obtain ⟨b, off, rfl, _, hc1⟩ := HAT.out k hlt
      have hsm := (HSM.out k hlt).1
      have hm1 := HM.out k
      have hm2 := HN.out
      generalize (l k).length = m at *
      by_cases hbig : 20000 < m
      · have e3 : decide ((20000 : Int) < (m : Int)) = true := decide_eq_true (by omega)
        have e3' : decide (20000 < m) = true := decide_eq_true hbig
        clear hbig hm2
        go_wp2_with fail
        refine (works_ok _).mono ?_
        rintro e w9 ⟨rfl, hB⟩
        go_wp2
        go_ret
        exact ⟨rfl, hB⟩
      · have e3 : decide ((20000 : Int) < (m : Int)) = false := decide_eq_false (by omega)
        have e3' : decide (20000 < m) = false := decide_eq_false hbig
        have hw1 : IntKind.i64.wrap ((M k : Int) + (m : Int)) = (M k : Int) + (m : Int) := by rw [IntKind.wrap_i64]; omega
        have HM1 := hide hm1
        clear hm1 hm2
        go_wp2
        go_round
        case rel => exact ⟨k + 1, by omega, by go_num, by rw [HM1.out]; go_num, by rw [HM1.out]; omega⟩
        case measure => simp [intOf] <;> omega
    · obtain rfl : k = n := by omega
      have e1 : decide ((k : Int) < (k : Int)) = false := decide_eq_false (by omega)
      have e1' : decide (k < k) = false := decide_eq_false (by omega)
      have H40 : Hid (M k ≤ 800000) := hide (by have := HN.out; omega)
      clear hMk
      by_cases hbig : 20000 < M k
      · have e3 : decide ((20000 : Int) < (M k : Int)) = true := decide_eq_true (by omega)
        have e3' : decide (20000 < M k) = true := decide_eq_true hbig
        have HAL := hide (fun (w' : World) (hB : Below w.heap.size w w') => hB)
        clear HAT HTX HSM HNIL HM HM0 HML HBL HBT HB0 HBS hi hbig
        cases zero
        · go_wp2_with fail
          refine (New_ok _).mono ?_
          rintro e w1 ⟨rfl, rfl⟩
          go_wp2_with fail
          refine (works_ok _).mono ?_
          rintro e w9 ⟨rfl, hB⟩
          go_wp2
          go_ret
          exact ⟨rfl, ((Below.refl _ _).alloc (Nat.le_refl _) _).trans (hB.mono (by simp))⟩
        · go_wp2_with fail
          refine (New_ok _).mono ?_
          rintro e w1 ⟨rfl, rfl⟩
          go_wp2_with fail
          refine (works_ok _).mono ?_
          rintro e w9 ⟨rfl, hB⟩
          go_wp2
          go_ret
          exact ⟨rfl, (((Below.refl _ _).alloc (Nat.le_refl _) _).alloc (by simp) _).trans (hB.mono (by simp; omega))⟩
      · have e3 : decide ((20000 : Int) < (M k : Int)) = false := decide_eq_false (by omega)
        have e3' : decide (20000 < M k) = false := decide_eq_false hbig
        have HMB := hide hbig
        clear hbig
        have H0 : Hid (HSt w (w.alloc (.cells #[.int .u32 0, .int .i64 0] 60)) w.heap.size (.slice none 0 0) (S 0)) := hide (by
          rw [HB0.out]
          exact ⟨Nat.le_refl _, by rw [sum_nil]; exact HashAt.new w 0 0, ⟨rfl, .inl ⟨rfl, rfl⟩⟩, (Below.refl _ _).alloc (Nat.le_refl _) _⟩)
        have H1 : Hid (HSt w ((w.alloc (.cells #[.int .u32 0, .int .i64 0] 60)).alloc (.cells #[.int .u32 0, .int .i64 0] 60)) (w.heap.size + 1) (.slice none 0 0) (S 0)) := hide (by
          rw [HB0.out]
          have hk1 : (w.alloc (.cells #[.int .u32 0, .int .i64 0] 60)).heap.size = w.heap.size + 1 := by simp
          have := HashAt.new (w.alloc (.cells #[.int .u32 0, .int .i64 0] 60)) 0 0
          rw [hk1] at this
          exact ⟨by omega, by rw [sum_nil]; exact this, ⟨rfl, .inl ⟨rfl, rfl⟩⟩, ((Below.refl _ _).alloc (Nat.le_refl _) _).alloc (by simp) _⟩)
        go_upto_if 39 with (first | (go_at_call 30; refine (New_ok _).mono ?_; rintro e w1 ⟨rfl, rfl⟩))
        go_cut [7] from 39 to 41 (fun h wc => ∃ g, h = .pointer (some ⟨g, 0, none⟩) ∧ Hid (HSt w wc g (.slice none 0 0) (S 0)))
        case first =>
          cases zero
          · go_wp2_with fail
            go_meet
            exact ⟨_, rfl, H0⟩
          · go_wp2_with fail
            go_meet
            exact ⟨_, rfl, H1⟩
        case rest =>
        obtain ⟨g0, rfl, HG0⟩ := hcut
        clear H0 H1
        go_wp2_with fail
        go_loopw [7, 8, 9] (fun hp bv i wr => ∃ (j g : Nat), j ≤ k ∧ i = .int .i64 j ∧ hp = .pointer (some ⟨g, 0, none⟩) ∧ Hid (HSt w wr g bv (S j))) (fun _ _ i _ => k - (intOf i).toNat)
        case atStart => exact ⟨0, g0, Nat.zero_le _, rfl, rfl, HG0⟩
        case round =>
          obtain ⟨j, g, hj, rfl, rfl, HS⟩ := hrel
          clear HG0
          by_cases hlt : j < k
          · have d1 : decide ((j : Int) < (k : Int)) = true := decide_eq_true (by omega)
            have d1' : decide (j < k) = true := decide_eq_true hlt
            have HJK := hide hlt
            have HBM : Hid (∀ i, i ≤ k → (S i).length ≤ 20000) := hide (fun i hi => by have := HBL.out i; have := HML.out i hi; have := HMB.out; omega)
            obtain ⟨b, off, rfl, hc0, hc1⟩ := HAT.out j hlt
            have c0 := (HS.out.bel.cell (p := ⟨b, off + j * 2, none⟩) (World.block_lt_of_cell? w _ hc0)).trans hc0
            have c1 := (HS.out.bel.cell (p := ⟨b, off + j * 2 + 1, none⟩) (World.block_lt_of_cell? w _ hc1)).trans hc1
            have HCW := hide (fun (w' : World) (hB : Below w.heap.size w w') => (hB.cell (p := ⟨b, off + j * 2 + 1, none⟩) (World.block_lt_of_cell? w _ hc1)).trans hc1)
            have HTJ := hide (HTX.out j hlt)
            have HSJ := hide (HSM.out j hlt)
            have HNJ := hide (HNIL.out j hlt)
            have HBJ := hide (HBS.out j)
            have HBTJ := hide (HBT.out (j + 1) (by omega))
            have HBT0 := hide (HBT.out j (by omega))
            have HBMJ := hide (HBM.out (j + 1) (by omega))
            have HBM0 := hide (HBM.out j (by omega))
            clear hc0 hc1 HAT HTX HSM HNIL HBS HBT HBM HM HM0 HML HBL HB0 hlt
            obtain ⟨Sj, hSj⟩ : ∃ x, x = S j := ⟨_, rfl⟩
            obtain ⟨Sn, hSn⟩ : ∃ x, x = S (j + 1) := ⟨_, rfl⟩
            rw [← hSj] at HS HBJ HBT0 HBM0
            rw [← hSn] at HBJ HBTJ HBMJ
            have HSN := hide hSn
            clear hSj hSn
            generalize l j = lj at *
            generalize A j = Aj at *
            generalize C j = Cj at *
            generalize K j = Kj at *
            have hSl : lj.length ≤ 9223372036854775807 := HSJ.out.1
            by_cases hk0 : Kj = 0
            · subst hk0
              obtain rfl : Sn = Sj ++ lj := by rw [HBJ.out, if_pos rfl]
              have hlen : (Sj ++ lj).length = Sj.length + lj.length := List.length_append
              have HMS : Hid (moreL (sumL Sj) lj = sumL (Sj ++ lj)) := hide (more_sum Sj lj)
              have HW2 := hide (write_two Aj Cj lj w wr g (sumL Sj) Sj.length (sumL_lt _ HBT0.out) HSJ.out.2 HTJ.out HS.out.bel HS.out.lo HS.out.at_ (by have := HBMJ.out; omega))
              have hrow := rowF_append Sj lj
              have HROW := hide hrow
              have HLEN := hide hlen
              have hO := HS.out.own
              unfold OwnBytes at hO
              have HO := hide hO
              have hz := HNJ.out
              have hMm : Sj.length + lj.length ≤ 20000 := by have := HBMJ.out; omega
              have HAT0 := hide HS.out.at_
              have HBEL := hide HS.out.bel
              have HLO := hide HS.out.lo
              have HSR := hide (fun (w' : World) (hB : Below w.heap.size w w') => (HTJ.out.below hB (Nat.le_refl _)).src)
              clear hrow hlen hO
              generalize hSL : Sj.length = M1 at *
              generalize hLL : lj.length = m1 at *
              have HSL := hide hSL
              have HLL := hide hLL
              clear hSL hLL
              go_wp2_with fail
              refine HW2.out.mono ?_
              rintro e w1 ⟨rfl, hH, hG⟩
              rw [HMS.out] at hH
              have HH1 := hide hH
              have HB1 := hide (below_of_grown HBEL.out hG HLO.out HBEL.out.size)
              have HO1 := hide (World.ownsRow.kept HO.out hG (.inr (HAT0.out.not_row HO.out)))
              have hsrc := HSR.out w1 HB1.out
              have HSRC := hide hsrc
              have hw0 := HB1.out.size
              have cw1 := HCW.out w1 HB1.out
              clear hH hG hsrc HAT0 HBEL HO
              go_wp2_with (first | (go_at_call 13; with_reducible refine (num_ok _ _).mono ?_; rintro e w' ⟨rfl, rfl⟩) | (at_builtin; (refine wpList_append_src rfl (.tmp 76) (.tmp 81) 22 rfl w.heap.size 5 i0 (.int .u8 0) 1 1 Try.underlying22 hi hz0 hz1 hz2 rfl (by decide) _ M1 (rowF (byteV Sj) M1) rfl HO1.out Aj m1 Cj (rowF (byteV lj) m1) rfl (by simp) hz HSRC.out (rowF_one _ _ (byteV_one _)) (by unfold maxLen; omega) (by omega) hw0 ?_); intro v2 w2 hown2 hgrow2; have HO2 := hide hown2; have HG2 := hide hgrow2; have HB2 := hide (below_own HB1.out HO1.out (Nat.le_refl _) hw0 hgrow2); clear hown2 hgrow2))
              have HX : Hid (HSt w w2 g v2 (Sj ++ lj)) := hide ⟨HLO.out, by rw [HLEN.out]; exact HH1.out.grown HG2.out (by intro e; exact HH1.out.not_row HO1.out e.symm), by unfold OwnBytes; rw [HLEN.out, HROW.out]; exact HO2.out, HB2.out⟩
              obtain ⟨Sn, hSn⟩ : ∃ x, x = Sj ++ lj := ⟨_, rfl⟩
              rw [← hSn] at HX HBMJ HBTJ HSN
              clear hw0
              obtain ⟨ao, cp, rfl, _, _, hbv, _⟩ := HX.out.own.any
              have HC1 := hide (HSum_ok HX.out.at_)
              have HC2 := hide (refSum_ok ao cp Sn _ (by have := HBMJ.out; omega) HBTJ.out hbv)
              have HC3 := hide (HLen_ok HX.out.at_)
              have y1 : (((sumL Sn : Nat) : Int) != ((sumL Sn : Nat) : Int)) = false := by simp
              have y2 : (((Sn.length : Nat) : Int) != ((Sn.length : Nat) : Int)) = false := by simp
              clear hbv
              generalize sumL Sn = sn at *
              generalize Sn.length = ln at *
              refine HC1.out.mono ?_
              rintro e w' ⟨rfl, rfl⟩
              go_wp2_with fail
              refine HC2.out.mono ?_
              rintro e w' ⟨rfl, rfl⟩
              go_wp2_with fail
              refine HC3.out.mono ?_
              rintro e w' ⟨rfl, rfl⟩
              go_wp2
              go_roundw
              case rel => exact ⟨j + 1, _, by have := HJK.out; omega, by go_num, rfl, by rw [← HSN.out]; exact HX⟩
              case measure => have := HJK.out; simp [intOf] <;> omega
            by_cases hk1 : Kj = 1
            · subst hk1
              obtain rfl : Sn = [] := by rw [HBJ.out, if_neg (by decide), if_pos rfl]
              have HR := hide (Reset_ok HS.out.at_)
              go_wp2_with fail
              refine HR.out.mono ?_
              rintro e w1 ⟨rfl, hH, hG⟩
              have HX := hide (HS.out.reset hH hG)
              clear hH hG
              obtain ⟨Sn, hSn⟩ : ∃ x : List Nat, x = [] := ⟨_, rfl⟩
              rw [← hSn] at HX HBMJ HBTJ HSN
              have HC1 := hide (HSum_ok HX.out.at_)
              have HC2 := hide (refSum_ok none 0 Sn w1 (by have := HBMJ.out; omega) HBTJ.out (by rw [hSn]; exact fun j hj => absurd hj (by simp)))
              have HC3 := hide (HLen_ok HX.out.at_)
              have y1 : (((sumL Sn : Nat) : Int) != ((sumL Sn : Nat) : Int)) = false := by simp
              rw [show Sn.length = 0 by rw [hSn]; rfl] at HC2 HC3
              clear hSn
              generalize sumL Sn = sn at *
              go_wp2_with (go_at_call 13; with_reducible refine (num_ok _ _).mono ?_; rintro e w' ⟨rfl, rfl⟩)
              refine HC1.out.mono ?_
              rintro e w' ⟨rfl, rfl⟩
              go_wp2_with fail
              refine HC2.out.mono ?_
              rintro e w' ⟨rfl, rfl⟩
              go_wp2_with fail
              refine HC3.out.mono ?_
              rintro e w' ⟨rfl, rfl⟩
              go_wp2
              go_roundw
              case rel => exact ⟨j + 1, _, by have := HJK.out; omega, by go_num, rfl, by rw [← HSN.out]; exact HX⟩
              case measure => have := HJK.out; simp [intOf] <;> omega
            by_cases hk2 : Kj = 2
            · subst hk2
              obtain rfl : Sn = Sj := by rw [HBJ.out, if_neg (by decide), if_neg (by decide)]
              have HCP := hide (Copy_ok HS.out.at_)
              have HGL := hide HS.out.at_.lt
              have HSZ := hide HS.out.bel.size
              go_wp2_with fail
              refine HCP.out.mono ?_
              rintro e w1 ⟨rfl, hH, hB⟩
              have HH2 := hide hH
              have HX1 := hide (HS.out.call hB)
              clear hH hB
              have kc := KC.out
              have HWX := hide (write_x w1 g (sumL Sn) Sn.length (sumL_lt _ HBT0.out) HX1.out.at_ (by have := HBM0.out; omega))
              go_wp2_with fail
              refine HWX.out.mono ?_
              rintro e w2 ⟨rfl, hG⟩
              clear kc
              have HX := hide (HX1.out.copied HSZ.out HH2.out (by have := HGL.out; omega) hG)
              clear hG
              obtain ⟨ao, cp, rfl, _, _, hbv, _⟩ := HX.out.own.any
              have HC1 := hide (HSum_ok HX.out.at_)
              have HC2 := hide (refSum_ok ao cp Sn _ (by have := HBMJ.out; omega) HBTJ.out hbv)
              have HC3 := hide (HLen_ok HX.out.at_)
              have y1 : (((sumL Sn : Nat) : Int) != ((sumL Sn : Nat) : Int)) = false := by simp
              have y2 : (((Sn.length : Nat) : Int) != ((Sn.length : Nat) : Int)) = false := by simp
              clear hbv
              generalize sumL Sn = sn at *
              generalize Sn.length = ln at *
              go_wp2_with (go_at_call 13; with_reducible refine (num_ok _ _).mono ?_; rintro e w' ⟨rfl, rfl⟩)
              refine HC1.out.mono ?_
              rintro e w' ⟨rfl, rfl⟩
              go_wp2_with fail
              refine HC2.out.mono ?_
              rintro e w' ⟨rfl, rfl⟩
              go_wp2_with fail
              refine HC3.out.mono ?_
              rintro e w' ⟨rfl, rfl⟩
              go_wp2
              go_roundw
              case rel => exact ⟨j + 1, _, by have := HJK.out; omega, by go_num, rfl, by rw [← HSN.out]; exact HX⟩
              case measure => have := HJK.out; simp [intOf] <;> omega
            · have q0 : (Kj == 0) = false := beq_eq_false_iff_ne.2 hk0
              have q1 : (Kj == 1) = false := beq_eq_false_iff_ne.2 hk1
              have q2 : (Kj == 2) = false := beq_eq_false_iff_ne.2 hk2
              obtain rfl : Sn = Sj := by rw [HBJ.out, if_neg hk0, if_neg hk1]
              have HX := HS
              clear hk0 hk1 hk2
              obtain ⟨ao, cp, rfl, _, _, hbv, _⟩ := HX.out.own.any
              have HC1 := hide (HSum_ok HX.out.at_)
              have HC2 := hide (refSum_ok ao cp Sn _ (by have := HBMJ.out; omega) HBTJ.out hbv)
              have HC3 := hide (HLen_ok HX.out.at_)
              have y1 : (((sumL Sn : Nat) : Int) != ((sumL Sn : Nat) : Int)) = false := by simp
              have y2 : (((Sn.length : Nat) : Int) != ((Sn.length : Nat) : Int)) = false := by simp
              clear hbv
              generalize sumL Sn = sn at *
              generalize Sn.length = ln at *
              go_wp2_with fail
              refine HC1.out.mono ?_
              rintro e w' ⟨rfl, rfl⟩
              go_wp2_with fail
              refine HC2.out.mono ?_
              rintro e w' ⟨rfl, rfl⟩
              go_wp2_with fail
              refine HC3.out.mono ?_
              rintro e w' ⟨rfl, rfl⟩
              go_wp2
              go_roundw
              case rel => exact ⟨j + 1, _, by have := HJK.out; omega, by go_num, rfl, by rw [← HSN.out]; exact HX⟩
              case measure => have := HJK.out; simp [intOf] <;> omega
          · obtain rfl : j = k := by omega
            have d1 : decide ((j : Int) < (j : Int)) = false := decide_eq_false (by omega)
            have d1' : decide (j < j) = false := decide_eq_false (by omega)
            have HBEL := hide HS.out.bel
            clear HAT HTX HSM HNIL HM HM0 HML HBL HBT HB0 HBS hi
            go_wp2_with (first
              | (go_at_call 13; with_reducible refine (num_ok _ _).mono ?_; rintro e w' ⟨rfl, rfl⟩)
              | (go_at_call 31; with_reducible refine (Write_nil _ _).mono ?_; rintro e w' ⟨rfl, rfl⟩)
              | (go_at_call 34; with_reducible refine (HSum_nil _).mono ?_; rintro e w' ⟨rfl, rfl⟩)
              | (go_at_call 35; with_reducible refine (HLen_nil _).mono ?_; rintro e w' ⟨rfl, rfl⟩)
              | (go_at_call 32; with_reducible refine (Reset_nil _).mono ?_; rintro e w' ⟨rfl, rfl⟩)
              | (go_at_call 33; with_reducible refine (Copy_nil _).mono ?_; rintro e w' ⟨rfl, rfl⟩))
            refine (works_ok _).mono ?_
            rintro e w9 ⟨rfl, hB⟩
            go_wp2
            go_ret
            exact ⟨rfl, HBEL.out.trans (hB.mono HBEL.out.size)⟩
end Go.Proofs.Ytbcdalgfceagcaa
