/- Walks of the reference: turned, Step, Eight, More, Sum. -/
import Derived.Test.YtbcdalgfceagcaaCrcSum
namespace Go.Proofs.Ytbcdalgfceagcaa
open Go.RowKit

theorem turned_ok (x : Nat) (hx : x < 4294967296) (w : World) : Calls Try.prog 38 #[.int .u32 x] w fun e w' => e = .returned (.int .u32 (notN x : Nat)) ∧ w = w' := by
  have HN : Hid (((notN x : Nat) : Int) = 4294967295 - (x : Int)) := hide (by rw [notN_sub hx]; omega)
  go_enter Try.func38, Try.ntmps38
  go_wp2
  go_ret
  exact ⟨by rw [HN.out] <;> rfl, rfl⟩

theorem Step_ok (x : Nat) (hx : x < 4294967296) (w : World) : Calls Try.prog 42 #[.int .u32 x] w fun e w' => e = .returned (.int .u32 (stp x : Nat)) ∧ w = w' := by
  have hb := u32xor (x / 2) 2197175160 (by omega) (by omega)
  have HB : Hid (bits .xor .u32 ((x : Int) / 2) 2197175160 = (((x / 2) ^^^ 2197175160 : Nat) : Int)) := hide (by rw [← hb]; congr 1)
  clear hb
  by_cases hodd : x % 2 = 1
  · have h1 : ((x : Int) % 2 == 1) = true := by simp; omega
    have HS : Hid (stp x = (x / 2) ^^^ 2197175160) := hide (if_pos hodd)
    clear hodd
    have hbb := HB.out
    generalize (x / 2) ^^^ 2197175160 = y at *
    go_enter Try.func42, Try.ntmps42
    go_wp2
    go_ret
    exact ⟨by rw [HS.out] <;> rfl, rfl⟩
  · have h1 : ((x : Int) % 2 == 1) = false := by simp; omega
    have HS : Hid (((stp x : Nat) : Int) = (x : Int) / 2) := hide (by unfold stp; rw [if_neg hodd]; omega)
    clear hodd HB
    go_enter Try.func42, Try.ntmps42
    go_wp2
    go_ret
    exact ⟨by rw [HS.out] <;> rfl, rfl⟩

theorem Eight_ok (x : Nat) (hx : x < 4294967296) (w : World) : Calls Try.prog 25 #[.int .u32 x] w fun e w' => e = .returned (.int .u32 (stpN 8 x : Nat)) ∧ w = w' := by
  go_enter Try.func25, Try.ntmps25
  go_wp2
  go_loop [0, 3] (fun y i => ∃ k : Nat, k ≤ 8 ∧ i = .int .i64 k ∧ y = .int .u32 (stpN k x : Nat)) (fun _ i => 8 - (intOf i).toNat)
  case atStart => exact ⟨0, by omega, rfl, rfl⟩
  case round =>
    obtain ⟨k, hk, rfl, rfl⟩ := hrel
    have hs := hide (stpN_succ k x)
    have hl := stpN_lt k hx
    by_cases hlt : k < 8
    · have HST := hide (Step_ok _ hl w)
      generalize stpN k x = y at *
      go_wp2_with fail
      refine HST.out.mono ?_
      rintro e w' ⟨rfl, rfl⟩
      go_wp2
      go_round
      case rel => exact ⟨k + 1, by omega, by go_num, by rw [hs.out]⟩
      case measure => simp [intOf]; omega
    · have hk8 : k = 8 := by omega
      subst hk8
      generalize hy : stpN 8 x = y at *
      have HY := hide hy
      clear hy
      go_wp2
      go_ret
      exact ⟨by rw [HY.out] <;> rfl, rfl⟩

set_option maxHeartbeats 800000 in
theorem refMore_ok (s : Nat) (hs : s < 4294967296) (a : Option Addr) (c : Nat) (l : List Nat) (w : World) (hn : l.length ≤ 9223372036854775807) (hl : ∀ c ∈ l, c < 256) (hb : BytesAt w a l) :
    Calls Try.prog 23 #[.int .u32 s, .slice a l.length c] w fun e w' => e = .returned (.int .u32 (moreL s l : Nat)) ∧ w = w' := by
  have HM := hide (moreL_not s l)
  have HT := hide (turned_ok s hs w)
  have hn0 := notN_lt hs
  have hfin := hide (turned_ok _ (intoL_lt l hn0 hl) w)
  have HTL : Hid (l.take l.length = l) := hide (List.take_length)
  generalize hL : l.length = n at *
  have HL := hide hL
  clear hL
  go_enter Try.func23, Try.ntmps23
  go_wp2_with fail
  refine HT.out.mono ?_
  rintro e w' ⟨rfl, rfl⟩
  go_wp2
  go_loop [5, 6] (fun x i => ∃ k : Nat, k ≤ n ∧ i = .int .i64 k ∧ x = .int .u32 (intoL (notN s) (l.take k) : Nat)) (fun _ i => n - (intOf i).toNat)
  case atStart => exact ⟨0, Nat.zero_le _, rfl, rfl⟩
  case round =>
    obtain ⟨k, hk, rfl, rfl⟩ := hrel
    have hxl := intoL_lt (l.take k) hn0 (fun c hc => hl c (List.mem_of_mem_take hc))
    by_cases hlt : k < n
    · obtain ⟨b, off, rfl, hc⟩ := hb k (by rw [HL.out]; exact hlt)
      have hcl := getD_lt l hl k
      have hst := hide (intoL_take (notN s) l k (by rw [HL.out]; exact hlt))
      generalize intoL (notN s) (l.take k) = x at *
      dsimp only at hc
      generalize l.getD k 0 = ck at *
      have hx := u32xor x ck hxl (by omega)
      have HE := hide (Eight_ok (x ^^^ ck) (xor_lt32 hxl (by omega)) w)
      have HS := hide hst.out
      clear hst
      go_wp2_with fail
      refine HE.out.mono ?_
      rintro e w' ⟨rfl, rfl⟩
      go_wp2
      go_round
      case rel => exact ⟨k + 1, by omega, by go_num, by rw [HS.out]; rfl⟩
      case measure => simp [intOf]; omega
    · have hkn : k = n := by omega
      subst hkn
      have HTK : Hid (intoL (notN s) (l.take k) = intoL (notN s) l) := hide (by rw [← HL.out, List.take_length])
      rw [HTK.out]
      clear HTK hxl
      generalize intoL (notN s) l = x at *
      go_wp2_with fail
      refine hfin.out.mono ?_
      rintro e w' ⟨rfl, rfl⟩
      go_wp2
      go_ret
      exact ⟨by rw [HM.out] <;> rfl, rfl⟩

theorem refSum_ok (a : Option Addr) (c : Nat) (l : List Nat) (w : World) (hn : l.length ≤ 9223372036854775807) (hl : ∀ c ∈ l, c < 256) (hb : BytesAt w a l) :
    Calls Try.prog 22 #[.slice a l.length c] w fun e w' => e = .returned (.int .u32 (sumL l : Nat)) ∧ w = w' := by
  have HM : Hid (moreL 0 l = sumL l) := hide (by rw [moreL_not, sumL_not]; rfl)
  have HC : Hid (Calls Try.prog 23 #[.int .u32 0, .slice a l.length c] w fun e w' => e = .returned (.int .u32 (moreL 0 l : Nat)) ∧ w = w') := hide (refMore_ok 0 (by omega) a c l w hn hl hb)
  clear hb hl
  generalize l.length = n at *
  go_enter Try.func22, Try.ntmps22
  go_wp2_with fail
  refine HC.out.mono ?_
  rintro e w' ⟨rfl, rfl⟩
  go_wp2
  go_ret
  exact ⟨by rw [HM.out] <;> rfl, rfl⟩
end Go.Proofs.Ytbcdalgfceagcaa
