/- Walks of crc.behind, Seal, Open. -/
import Derived.Test.YtbcdalgfceagcaaCrcSum
import Derived.Laws.CopyOwn
import Derived.Laws.BytesArg
import Derived.Deep.RegionHeld3
import Derived.Deep.AppendLies
import Derived.Lib.SlBytesConst
namespace Go.Proofs.Ytbcdalgfceagcaa
open Go.RowKit

/-- the four bytes behind -/
def behL (s : Nat) : List Nat := [s % 256, s / 256 % 256, s / 65536 % 256, s / 16777216]
/-- a text with its sum behind -/
def sealL (l : List Nat) : List Nat := l ++ behL (sumL l)
/-- bytes as cells -/
def byteV (l : List Nat) (j : Nat) : Value := .int .u8 (l.getD j 0 : Nat)
theorem behL_lt {s : Nat} (hs : s < 4294967296) : ∀ c ∈ behL s, c < 256 := by
  intro c hc
  simp only [behL, List.mem_cons, List.not_mem_nil, or_false] at hc
  omega
@[simp] theorem behL_length (s : Nat) : (behL s).length = 4 := rfl
@[simp] theorem sealL_length (l : List Nat) : (sealL l).length = l.length + 4 := by simp [sealL]
theorem sealL_lt (l : List Nat) (h : ∀ c ∈ l, c < 256) : ∀ c ∈ sealL l, c < 256 := by
  intro c hc
  simp only [sealL, List.mem_append] at hc
  rcases hc with hc | hc
  · exact h c hc
  · exact behL_lt (sumL_lt l h) c hc
theorem byteV_one (l : List Nat) (j : Nat) : (byteV l j).oneCell' = true := rfl
theorem rowF_bytes (l : List Nat) : rowF (byteV l) l.length = l.map (fun (c : Nat) => Value.int .u8 (c : Nat)) := by
  apply List.ext_getElem?
  intro j
  by_cases h : j < l.length
  · rw [rowF_get _ _ _ h]
    simp [byteV, h]
  · rw [List.getElem?_eq_none (by simp; omega), List.getElem?_eq_none (by simp; omega)]
theorem rowF_append (a b : List Nat) : rowF (byteV (a ++ b)) (a.length + b.length) = rowF (byteV a) a.length ++ rowF (byteV b) b.length := by
  have := rowF_bytes (a ++ b)
  rw [List.length_append] at this
  rw [this, rowF_bytes, rowF_bytes, List.map_append]

/-- bytes as a string -/
def strL (l : List Nat) : ByteArray := strOfNums (l.map (fun (c : Nat) => (c : Int)))
theorem strL_inj {a b : List Nat} (ha : ∀ c ∈ a, c < 256) (hb : ∀ c ∈ b, c < 256) (h : strL a = strL b) : a = b := by
  have h1 : (a.map (fun (c : Nat) => UInt8.ofNat c)) = b.map (fun (c : Nat) => UInt8.ofNat c) := by
    have := congrArg (fun s => s.data.toList) h
    simpa [strL, strOfNums_data, List.map_map, Function.comp_def] using this
  apply List.ext_getElem?
  intro j
  have h2 := congrArg (fun l => l[j]?) h1
  simp only [List.getElem?_map] at h2
  cases e1 : a[j]? with
  | none => cases e2 : b[j]? with
    | none => rfl
    | some y => rw [e1, e2] at h2; simp at h2
  | some x => cases e2 : b[j]? with
    | none => rw [e1, e2] at h2; simp at h2
    | some y =>
      rw [e1, e2] at h2
      have hx := ha x (List.mem_of_getElem? e1)
      have hy := hb y (List.mem_of_getElem? e2)
      simp only [Option.map_some, Option.some.injEq] at h2
      have h3 := congrArg UInt8.toNat h2
      rw [UInt8.toNat_ofNat_of_lt' (by simpa using hx), UInt8.toNat_ofNat_of_lt' (by simpa using hy)] at h3
      rw [h3]
theorem conv_zero (w : World) (p : Option Addr) (c : Nat) : (convert 22 9 (.slice p 0 c)).run Try.prog w = .ok (.string ByteArray.empty) w := by
  rw [run_convert_bytes_string w 22 9 5 _ 0 c Try.underlying22 Try.underlying5 Try.underlying9]
  cases p <;> simp [Conv.bytesToString, loadCells]
  all_goals rfl
theorem conv_ok {w : World} {a : Option Addr} {l : List Nat} (h : BytesAt w a l) (c : Nat) : (convert 22 9 (.slice a l.length c)).run Try.prog w = .ok (.string (strL l)) w := by
  cases l with
  | nil => exact conv_zero w a c
  | cons x l =>
    obtain ⟨b, off, rfl, _⟩ := h 0 (by simp)
    refine run_convert_bytes_arg w 22 5 Try.underlying22 Try.underlying5 b off _ c _ (by simp) (fun i hi => ?_) 9 Try.underlying9
    obtain ⟨b2, off2, e, hc⟩ := h i hi
    injection e with e
    injection e with e1 e2
    subst e1 e2
    rw [hc]
    simp only [Option.some.injEq, Value.int.injEq, true_and]
    rw [List.getD_eq_getElem?_getD, List.getD_eq_getElem?_getD, List.getElem?_map]
    cases (x :: l)[i]? <;> rfl

theorem behind_ok (s : Nat) (hs : s < 4294967296) (w : World) :
    Calls Try.prog 36 #[.int .u32 s] w fun e w' => e = .returned (.slice (some ⟨w.heap.size, 0, none⟩) 4 4) ∧
      w' = w.alloc (.cells (rowF (byteV (behL s)) 4).toArray 5) := by
  have hb := hide (show (rowF (byteV (behL s)) 4).toArray = #[.int .u8 ((s : Int) % 256), .int .u8 ((s : Int) / 256 % 256), .int .u8 ((s : Int) / 65536 % 256), .int .u8 ((s : Int) / 16777216)] by
    rw [show 4 = (behL s).length from rfl, rowF_bytes (behL s)]
    simp [behL])
  go_enter Try.func36, Try.ntmps36
  go_wp2
  go_ret
  exact ⟨rfl, by rw [hb.out] <;> rfl⟩
theorem Try.info5 : (Try.prog.info? 5).map (fun i => (i.zero, i.size, i.bytes)) = some (some (.int .u8 0), 1, 1) := by kernel_rfl
theorem made_len (n : Nat) (w : World) (hn : n ≤ 1000000) : (Instr.makeSlice 22 (.int .i64 (n : Int)) (.int .i64 ((n : Int) + 4))).run Try.prog w = .ok (.slice (some ⟨w.heap.size, 0, none⟩) n (n + 4)) (w.alloc (.cells (madeCells #[.int .u8 0] (n + 4)) 5)) := by
  obtain ⟨i0, hi, hz0, hz1, hz2⟩ := info_parts Try.info5
  have h := run_make (P := Try.prog) w 22 5 i0 (.int .u8 0) Try.underlying22 hi hz0 .i64 .i64 (n : Int) ((n : Int) + 4) (by omega) (by omega) (by rw [hz2]; omega) (by omega)
  rw [h, hz1, show ((n : Int) + 4).toNat = n + 4 by omega, Int.toNat_natCast, Nat.mul_one]
  rfl
/-- a row of bytes that the call has made -/
def OwnBytes (w : World) (base : Nat) (v : Value) (l : List Nat) : Prop := w.ownsRow base 5 1 v l.length (rowF (byteV l) l.length)
theorem OwnBytes.any {w : World} {base : Nat} {v : Value} {l : List Nat} (h : OwnBytes w base v l) :
    ∃ ao cap, v = .slice ao l.length cap ∧ l.length ≤ cap ∧ (ao = none → l.length = 0 ∧ cap = 0) ∧ BytesAt w ao l ∧ (∀ b off, ao = some ⟨b, off, none⟩ → base ≤ b ∧ b < w.heap.size ∧ off = 0) := own_any h
theorem kept_below {w w' : World} {B T n : Nat} {v : Value} {xs : List Value} (h : w.ownsRow B T 1 v n xs) (hb : Below w.heap.size w w') : w'.ownsRow B T 1 v n xs :=
  h.kept (row := none) ⟨hb.os, hb.tape, hb.output, hb.size, fun k hk _ => hb.block k hk⟩ (by cases v.ownBlock <;> simp)
theorem below_own {w0 w w' : World} {B T m D : Nat} {v : Value} {xs : List Value} (h : Below D w0 w) (ho : w.ownsRow B T 1 v m xs) (hD : D ≤ B) (hs : D ≤ w.heap.size) (hg : w.grownBy w' v.ownBlock) : Below D w0 w' :=
  h.grown hg hs (fun k hk => Nat.le_trans hD (ho.lt k hk).1)
theorem below_grown {B g : Nat} {w0 w w' : World} {v : Value} (hb : Below B w0 w) (hg : w.grownBy w' v.ownBlock) (hv : v.ownBlock = some g) (hBg : B ≤ g) (hBs : B ≤ w.heap.size) : Below B w0 w' :=
  hb.grown hg hBs (fun j hj => by rw [hv] at hj; injection hj with hj; omega)

theorem sum_one (a : Option Addr) (c : Nat) (l : List Nat) (w : World) (hn : l.length ≤ 9223372036854775807) (hl : ∀ c ∈ l, c < 256) (hb : BytesAt w a l) :
    Calls Try.prog 18 #[.slice (some ⟨w.heap.size, 0, none⟩) 1 1] (w.alloc (.cells #[.slice a l.length c] 22)) fun e w' => e = .returned (.int .u32 (sumL l : Nat)) ∧ Below w.heap.size w w' := by
  have h := Sum_ok (some ⟨w.heap.size, 0, none⟩) 1 1 (fun _ => a) (fun _ => c) (fun _ => l) (w.alloc (.cells #[.slice a l.length c] 22)) (by omega) ⟨fun i hi => by
    obtain rfl : i = 0 := by omega
    exact ⟨_, _, rfl, by rw [World.cell?_alloc_at _ _ _ _ rfl]; rfl⟩, fun i _ => hb.below ((Below.refl _ _).alloc (Nat.le_refl _) _) (Nat.le_refl _), fun i _ => ⟨hn, hl⟩⟩
  refine h.mono ?_
  rintro e w' ⟨rfl, hB⟩
  exact ⟨by rw [show joinL (fun _ => l) 1 = l by simp [joinL]], ((Below.refl _ _).alloc (Nat.le_refl _) _).trans (hB.mono (by simp))⟩

set_option maxHeartbeats 1600000 in
theorem Seal_ok (a : Option Addr) (c : Nat) (l : List Nat) (w : World) (hn : l.length ≤ 1000000) (hl : ∀ c ∈ l, c < 256) (hb : BytesAt w a l) :
    Calls Try.prog 11 #[.slice a l.length c] w fun e w' => ∃ v, e = .returned v ∧ OwnBytes w' w.heap.size v (sealL l) ∧ Below w.heap.size w w' := by
  obtain ⟨i0, hi, hz0, hz1, hz2⟩ := info_parts Try.info5
  have hsz : (Try.prog.info? 5).map (·.size) = some 1 := by rw [hi, Option.map_some, hz1]
  have hmk := made_len l.length w hn
  have hs := sumL_lt l hl
  have HBE := hide (behind_ok (sumL l) hs)
  have HSUM := hide (fun (w' : World) (hB : Below w.heap.size w w') => sum_one a c l w' (by omega) hl (hb.below hB (Nat.le_refl _)))
  have hpos : 0 < (rowF (byteV l) l.length).length → some (⟨w.heap.size, 0, none⟩ : Addr) = some ⟨w.heap.size, 0, none⟩ ∧ ∃ ad, a = some ad ∧ ∀ j v, (rowF (byteV l) l.length)[j]? = some v → (w.alloc (.cells (madeCells #[.int .u8 0] (l.length + 4)) 5)).cell? (ad.add j) = some v := by
    intro hp
    have hb' := hb.below ((Below.refl _ _).alloc (Nat.le_refl _) (.cells (madeCells #[.int .u8 0] (l.length + 4)) 5)) (Nat.le_refl _)
    obtain ⟨b, off, rfl, _⟩ := hb 0 (by simpa using hp)
    exact ⟨rfl, _, rfl, CellsAt.src hb' _ rfl⟩
  have HPOS := hide hpos
  have HNEWS := hide (show rowF (byteV (sealL l)) (sealL l).length = rowF (byteV l) l.length ++ rowF (byteV (behL (sumL l))) 4 by rw [sealL_length]; exact rowF_append l (behL (sumL l)))
  have HLEN := hide (sealL_length l)
  generalize hsv : sumL l = s at *
  clear hb hl hpos hsv
  have hfit : 0 + (rowF (byteV l) l.length).length ≤ ((madeCells #[Value.int .u8 0] (l.length + 4)).toList).length := by simp [size_madeCells]
  have HTK : Hid ((splice (madeCells #[Value.int .u8 0] (l.length + 4)).toList 0 (rowF (byteV l) l.length)).toArray.toList.take (l.length * 1) = rowF (byteV l) l.length) := hide (by
    simp only [splice, List.take_zero, List.nil_append]
    rw [Nat.mul_one, List.take_left' (by simp)])
  have HSZ : Hid ((splice (madeCells #[Value.int .u8 0] (l.length + 4)).toList 0 (rowF (byteV l) l.length)).toArray.size = (l.length + 4) * 1) := hide (by
    rw [List.size_toArray, length_splice _ _ _ hfit]; simp [size_madeCells])
  generalize hnn : l.length = n at *
  clear hnn
  have hnew : (w.alloc (.cells (madeCells #[Value.int .u8 0] (n + 4)) 5)).heap[w.heap.size]? = some (.cells (madeCells #[.int .u8 0] (n + 4)).toList.toArray 5 (0, 0)) := by rw [Array.toArray_toList]; exact heap_alloc_new w _
  have HNEW := hide hnew
  clear hnew
  go_enter Try.func11, Try.ntmps11
  go_wp2_with (with_reducible refine wpList_copy_splice rfl (.tmp 10) (.tmp 11) 22 22 rfl 5 Try.underlying22 hsz (some ⟨w.heap.size, 0, none⟩) a n (n + 4) n c rfl rfl w.heap.size 0 (madeCells #[Value.int .u8 0] (n + 4)).toList 5 HNEW.out (rowF (byteV l) n) (by simp) HPOS.out hfit (rowF_one _ _ (byteV_one l)) w.heap.size w ((Below.refl _ _).alloc (Nat.le_refl _) _) (Nat.le_refl _) ?_)
  intro w1 HC hB1
  have hg1 : w.heap.size < w1.heap.size := (Array.getElem?_eq_some_iff.1 HC.out).1
  have HO : Hid (w1.ownsRow w.heap.size 5 1 (.slice (some ⟨w.heap.size, 0, none⟩) n (n + 4)) n (rowF (byteV l) n)) := hide ⟨by simp, .inr ⟨w.heap.size, n + 4, _, rfl, Nat.le_refl _, HC.out, by omega, by unfold maxLen; omega, HSZ.out, HTK.out⟩⟩
  have HS1 := hide (HSUM.out w1 hB1)
  clear HNEW HTK HSZ hfit HPOS
  go_wp2_with fail
  refine HS1.out.mono ?_
  rintro e w2 ⟨rfl, hB2⟩
  have hO2 : w2.ownsRow w.heap.size 5 1 (.slice (some ⟨w.heap.size, 0, none⟩) n (n + 4)) n (rowF (byteV l) n) := kept_below HO.out hB2
  have HB2 := hide hB2
  go_wp2_with fail
  refine (HBE.out w2).mono ?_
  rintro e w3 ⟨rfl, rfl⟩
  have hO3 := hO2.alloc (.cells (rowF (byteV (behL s)) 4).toArray 5)
  have hB3 : Below w.heap.size w (w2.alloc (.cells (rowF (byteV (behL s)) 4).toArray 5)) := (hB1.trans (HB2.out.mono (by omega))).alloc (by have := HB2.out.size; omega) _
  have hw3 : w.heap.size ≤ (w2.alloc (.cells (rowF (byteV (behL s)) 4).toArray 5)).heap.size := hB3.size
  have hnw := World.news_of_block (heap_alloc_new w2 (.cells (rowF (byteV (behL s)) 4).toArray 5))
  have HNW := hide hnw
  have HO3 := hide hO3
  have HB3 := hide hB3
  clear hO2 hO3 hB3 hnw HO HC HSUM HS1 HBE
  go_wp2_with (at_builtin; refine wpList_append_own _ rfl (.tmp 13) (.tmp 17) 22 rfl w.heap.size 5 i0 (.int .u8 0) 1 1 Try.underlying22 hi hz0 hz1 hz2 rfl (by decide) (.slice (some ⟨w.heap.size, 0, none⟩) n (n + 4)) n (rowF (byteV l) n) rfl HO3.out ⟨w2.heap.size, 0, none⟩ 4 4 (rowF (byteV (behL s)) 4) rfl (by simp) HNW.out (rowF_one _ _ (byteV_one _)) (by unfold maxLen; omega) (by omega) hw3 ?_; intro v4 w4 hown4 hgrow4 hnil4)
  go_ret
  exact ⟨_, rfl, by unfold OwnBytes; rw [HNEWS.out, HLEN.out]; exact hown4, below_own HB3.out HO3.out (Nat.le_refl _) hw3 hgrow4⟩
end Go.Proofs.Ytbcdalgfceagcaa
