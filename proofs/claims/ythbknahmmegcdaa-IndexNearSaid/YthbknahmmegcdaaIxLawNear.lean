/- IndexNear: what is found is never further ahead than a step. -/
import Derived.Test.YthbknahmmegcdaaIxNearPlain
import Derived.Test.YthbknahmmegcdaaIxFind3
import Derived.BigQuiet
namespace Go.Proofs.Ythbknahmmegcdaa
open Go.RowKit Go.Shelf
set_option linter.unusedVariables false

/-- an index and a slice of spots, both made since w -/
structure NS (w : World) (g : Nat) (st : Int) (l m : List S2) (v : Value) (wr : World) : Prop where
  bel : Below w.heap.size w wr
  lo : w.heap.size ≤ g
  sp : OwnSpots wr w.heap.size v m
  ix : ∃ u, IxAt wr w.heap.size g st l u ∧ ∀ r, u.ownBlock = some r → v.ownBlock ≠ some r
theorem NS.call {w wr w' : World} {g : Nat} {st : Int} {l m : List S2} {v : Value} (h : NS w g st l m v wr) (hB : Below wr.heap.size wr w') : NS w g st l m v w' := by
  obtain ⟨u, hu, hs⟩ := h.ix
  exact ⟨h.bel.trans (hB.mono h.bel.size), h.lo, kept_below2 h.sp hB, u, hu.call hB, hs⟩
theorem NS.app {w wr w1 : World} {g b cap k : Nat} {st : Int} {l m : List S2} {v : Value} {o : Obj} {s : S2} (h : NS w g st l m v wr) (hk : m.length = k)
    (hown : w1.ownsRow w.heap.size 31 2 (.slice (some ⟨b, 0, none⟩) (k + 1) cap) (k + 1) (spotCells m ++ [.int .i64 s.o, .int .i64 s.p])) (hgrow : (wr.alloc o).grownBy w1 v.ownBlock) (hat : v.ownBlock = some b ∨ b = (wr.alloc o).heap.size) :
    NS w g st l (m ++ [s]) (.slice (some ⟨b, 0, none⟩) (k + 1) cap) w1 := by
  subst hk
  obtain ⟨u, hu, hs⟩ := h.ix
  refine ⟨(h.bel.alloc h.bel.size o).grown hgrow (by have := h.bel.size; simp; omega) (fun r hr => (h.sp.lt r hr).1), h.lo, ?_, u, ⟨?_, ?_⟩, ?_⟩
  · unfold OwnSpots
    rw [List.length_append, List.length_singleton, spotCells_append]
    exact hown
  · refine (hgrow.block g (by have := hu.box.lt; simp; omega) (fun e => hu.box.not_row h.sp e.symm)).trans ?_
    exact (Below.heap_alloc wr o g hu.box.lt).trans hu.box
  · refine World.ownsRow.kept (hu.own.alloc o) hgrow ?_
    cases hq : u.ownBlock with
    | none => exact .inl rfl
    | some r => exact .inr (fun e => hs r hq e.symm)
  · intro r hr e
    injection e with e
    have e' : b = r := e
    subst e'
    rcases hat with h1 | h1
    · exact hs b hr h1
    · have := (hu.own.lt b hr).2
      simp at h1
      omega
/-- the spot to be added in a box of its own: the box stays -/
theorem NS.addS {w wr : World} {g : Nat} {st : Int} {l m : List S2} {v : Value} (h : NS w g st l m v wr) (hst : st ≠ 0) (hn : l.length ≤ 1000000) (hlo : l.length ≠ 0 → 0 ≤ (lastS l).p) (s : S2) (o : Obj) :
    Calls Try.prog 10 #[.pointer (some ⟨g, 0, none⟩), .agg (spotV s)] (wr.alloc o) fun e w' => e = .returned (.tuple #[.bool (addB st l s), .int .i64 (addE l s)]) ∧ NS w g st (addL st l s) m v w' ∧ w'.heap[wr.heap.size]? = some o := by
  have hA : Below wr.heap.size wr (wr.alloc o) := (Below.refl _ _).alloc (Nat.le_refl _) _
  have h' := h.call hA
  obtain ⟨u, hu0, hs⟩ := h.ix
  have hu := hu0.call hA
  refine (Add_ok hu hst hn hlo h'.bel.size s).mono ?_
  rintro e w' ⟨u', rfl, h1, h2, h3⟩
  refine ⟨rfl, ⟨h2.below h'.bel h'.bel.size h.lo (own_lt hu.own), h.lo, ?_, u', h1, ?_⟩, ?_⟩
  · refine ⟨h'.sp.1, ?_⟩
    rcases h'.sp.2 with hn | ⟨b, cap, cur, rfl, hb, hbb, rest⟩
    · exact .inl hn
    · refine .inr ⟨b, cap, cur, rfl, hb, ?_, rest⟩
      rw [h2.block b (Array.getElem?_eq_some_iff.1 hbb).1 (fun e => hu.box.not_row h'.sp (by rw [e]; rfl)) (fun e => hs b e.symm rfl)]
      exact hbb
  · intro r hr e
    rcases h3 with h3 | ⟨r', h3, hr'⟩
    · exact hs r (by rw [← h3]; exact hr) e
    · rw [hr] at h3
      injection h3 with h3
      have := (h'.sp.lt r e).2
      omega
  · refine (h2.block wr.heap.size (by simp) (fun e => ?_) (fun e => ?_)).trans (heap_alloc_new wr o)
    · have := hu0.box.lt
      omega
    · have := (hu0.own.lt wr.heap.size e.symm).2
      omega
theorem NS.new {w : World} (st : Int) : NS w w.heap.size st [] [] (.slice none 0 0) (w.alloc (.cells #[.int .i64 st, .slice none 0 0] 55)) :=
  ⟨(Below.refl _ _).alloc (Nat.le_refl _) _, Nat.le_refl _, ⟨rfl, .inl ⟨rfl, rfl⟩⟩, _, ⟨BoxI.new w st _, ⟨rfl, .inl ⟨rfl, rfl⟩⟩⟩, fun r hr => by cases hr⟩
theorem cutsAt_le {sz : Nat → Nat} : ∀ (k : Nat), (∀ j, j < k → sz j < 65536) → cutsAt sz k ≤ 65536 * k
  | 0, _ => by simp [cutsAt]
  | k + 1, h => by
    have h0 : cutsAt sz (k + 1) = cutsAt sz k + sz k + 1 := rfl
    have := cutsAt_le k (fun j hj => h j (by omega))
    have := h k (by omega)
    omega
theorem bytes_any {w : World} {base : Nat} {v : Value} {m : List Nat} (h : w.ownsRow base 5 1 v m.length (byteC m)) :
    ∃ a cap, v = .slice a m.length cap ∧ m.length ≤ cap ∧ CellsAt w a m.length (fun j => .int .u8 (m.getD j 0 : Nat)) := by
  rcases h.2 with ⟨rfl, h0⟩ | ⟨b, cap, cur, rfl, hb, hbb, hle, _⟩
  · refine ⟨none, 0, by rw [h0], by omega, fun j hj => by omega⟩
  · refine ⟨_, cap, rfl, hle, fun j hj => ⟨b, 0, rfl, ?_⟩⟩
    have := World.ownsRow.cells h (g := b) rfl j (.int .u8 (m.getD j 0 : Nat)) (by simp [byteC, List.getD_eq_getElem?_getD, hj])
    rw [addr_add] at this
    exact this
theorem cand_may_le {st : Int} {nc : Nat} {ct sz : Nat → Nat} {k : Nat} (h : mayB (nearL st nc ct sz k) (candN nc ct sz k) = true) : cutsAt sz k ≤ 16777216 := by
  have := (may_parts h).1.2.2.2
  have h2 : ((cutsAt sz k : Nat) : Int) ≤ 16777216 := this
  omega

set_option maxRecDepth 100000 in
set_option maxHeartbeats 8000000 in
theorem near_walk (st : Int) (a : Option Addr) (n c : Nat) (sz : Nat → Nat) (a2 : Option Addr) (nc c2 : Nat) (ct : Nat → Nat) (w : World) (hn : n ≤ 9223372036854775807) (hnc : nc ≤ 9223372036854775807) (hsz : ∀ i, i < n → sz i < 65536) (hs : CellsAt w a n (fun j => .int .u16 (sz j : Nat)))
    (hct : ∀ i, i < nc → ct i < 256) (hs2 : CellsAt w a2 nc (fun j => .int .u8 (ct j : Nat))) :
    Calls Try.prog 4 #[.int .i64 st, .slice a n c, .slice a2 nc c2] w fun e w' => e = .returned (.bool true) ∧ Below w.heap.size w w' := by
  go_enter Try.func4, Try.ntmps4
  by_cases h300 : 300 < n
  · as_aux_lemma =>
      have d1 : decide ((300 : Int) < (n : Int)) = true := decide_eq_true (by omega)
      have d1' : decide (300 < n) = true := decide_eq_true h300
      clear hs hsz hn h300 hct hs2
      go_wp2_with fail
      refine (known_ok w).mono ?_
      rintro e w1 ⟨rfl, hB⟩
      go_wp2_with fail
      go_ret
      exact ⟨rfl, hB⟩
  have d1 : decide ((300 : Int) < (n : Int)) = false := decide_eq_false (by omega)
  have d1' : decide (300 < n) = false := decide_eq_false h300
  by_cases hst : st < 1 ∨ 16777216 < st
  · as_aux_lemma =>
      clear hs hsz hn h300 hct hs2
      go_wp2_with fail
      refine (New_no st hst w).mono ?_
      rintro e w' ⟨rfl, rfl⟩
      clear hst
      go_wp2_with fail
      refine (known_ok w).mono ?_
      rintro e w1 ⟨rfl, hB⟩
      go_wp2_with fail
      go_ret
      exact ⟨rfl, hB⟩
  have hst1 : 1 ≤ st := by omega
  have hst2 : st ≤ 16777216 := by omega
  have HST : Hid (st ≠ 0) := hide (by omega)
  have HST1 := hide hst1
  have HST2 := hide hst2
  have HN3 : Hid (n ≤ 300) := hide (by omega)
  have HS := hide hs
  have HS2 := hide hs2
  have HSZ := hide hsz
  have HCT := hide hct
  have HNC := hide hnc
  have K0 := hide (NS.new (w := w) st)
  have HADD := hide (fun (k : Nat) (v : Value) (wr : World) (hk : k ≤ 300) (h : NS w w.heap.size st (nearL st nc ct sz k) (candL nc ct sz k) v wr) => h.addS HST.out (by have := nearL_len (st := st) (nc := nc) (ct := ct) (sz := sz) k; omega) (fun h0 => ((nearL_WF (st := st) (nc := nc) (ct := ct) (sz := sz) k).inr _ (by omega)).2.2.1) (candN nc ct sz k) (.cells #[.int .i64 (candN nc ct sz k).o, .int .i64 (candN nc ct sz k).p] 31))
  have HSUC : Hid (∀ k, nearL st nc ct sz (k + 1) = addL st (nearL st nc ct sz k) (candN nc ct sz k)) := hide (fun k => rfl)
  have HOFF : Hid (∀ k, offN nc ct (k + 1) = offN nc ct k + 1 + (if k < nc then ct k else 0)) := hide (fun k => rfl)
  have HCUT : Hid (∀ k, cutsAt sz (k + 1) = cutsAt sz k + sz k + 1) := hide (fun k => rfl)
  have HOB := hide (fun k => offN_le (nc := nc) hct k)
  have HCB := hide (fun k (hk : k ≤ n) => cutsAt_le k (fun j hj => hsz j (by omega)))
  obtain ⟨i0, hi, hz0, hz1, hz2⟩ := info_spot
  clear hst hs hs2 hsz hct h300 hnc
  unfold spotV candN at HADD
  dsimp only at HADD
  have HCL : Hid (∀ k, candL nc ct sz (k + 1) = candL nc ct sz k ++ [candN nc ct sz k]) := hide (fun k => candL_succ k)
  go_wp2_with fail
  refine (New_ok st hst1 hst2 w).mono ?_
  rintro e w1 ⟨rfl, rfl⟩
  clear hst1 hst2 d1 d1'
  generalize hg : w.heap.size = g at *
  go_wp2_with fail
  go_loopw [9, 10, 11, 12] (fun off pl v i wr => ∃ k : Nat, k ≤ n ∧ i = .int .i64 k ∧ off = .int .i64 (offN nc ct k : Nat) ∧ pl = .int .i64 (cutsAt sz k : Nat) ∧ Hid (∀ j, j < k → cutsAt sz j ≤ 16777216) ∧ Hid (NS w g st (nearL st nc ct sz k) (candL nc ct sz k) v wr)) (fun _ _ _ i _ => n - (intOf i).toNat)
  case atStart => exact ⟨0, Nat.zero_le _, rfl, rfl, rfl, hide (fun j hj => by omega), K0⟩
  case round =>
    obtain ⟨k, hk, rfl, rfl, rfl, HPL, HNS⟩ := hrel
    by_cases hlt : k < n
    · have d1 : decide ((k : Int) < (n : Int)) = true := decide_eq_true (by omega)
      have d1' : decide (k < n) = true := decide_eq_true hlt
      have hk300 : k ≤ 300 := by have := HN3.out; omega
      have HA := hide (HADD.out k _ wr hk300 HNS.out)
      have hob := HOB.out k
      have hcb := HCB.out k hk
      have hoff := HOFF.out k
      have hcut := HCUT.out k
      have hszk := HSZ.out k hlt
      have HLT := hide hlt
      obtain ⟨bb, hbb⟩ : ∃ bb, bb = addB st (nearL st nc ct sz k) (candN nc ct sz k) := ⟨_, rfl⟩
      unfold candN at hbb
      rw [← hbb] at HA
      clear hbb
      cases hm : mayB (nearL st nc ct sz k) (candN nc ct sz k) with
      | true =>
        have hE : addE (nearL st nc ct sz k) (candN nc ct sz k) = 0 := by unfold addE; rw [if_pos hm]
        unfold candN at hE
        have hP := cand_may_le hm
        have hsuc := HSUC.out k
        unfold candN at hsuc
        rw [hE, ← hsuc] at HA
        have HP := hide hP
        have hcl := HCL.out k
        unfold candN at hcl
        have HCLK := hide hcl
        clear hm hE hsuc hP hcl HNS
        generalize hol : offN nc ct k = ov at *
        generalize hcl : cutsAt sz k = pv at *
        go_wp2_with fail
        refine HA.out.mono ?_
        rintro e w2 ⟨rfl, hN2, hb2⟩
        dsimp only
        have HN2 := hide hN2
        have x0 : w2.cell? ⟨wr.heap.size, 0, none⟩ = some (.int .i64 (ov : Nat)) := by rw [cell_of_row _ _ _ _ _ _ hb2]; rfl
        have x1 : w2.cell? ⟨wr.heap.size, 1, none⟩ = some (.int .i64 (pv : Nat)) := by rw [cell_of_row _ _ _ _ _ _ hb2]; rfl
        have hsp := hN2.sp
        unfold OwnSpots at hsp
        rw [candL_length] at hsp
        have HSP := hide hsp
        have hB2 := hN2.bel.size
        rw [hg] at hB2 HSP
        have HCS := hide (HS.out.below hN2.bel (Nat.le_refl _) k hlt)
        have HCT2 := hide (fun (h : k < nc) => HS2.out.below hN2.bel (Nat.le_refl _) k h)
        have hw1 : IntKind.i64.wrap ((sz k : Nat) : Int) = (sz k : Nat) := by rw [IntKind.wrap_i64]; omega
        have hw2 : IntKind.i64.wrap ((pv : Int) + (sz k : Nat)) = (pv : Int) + (sz k : Nat) := by rw [IntKind.wrap_i64]; omega
        have hw3 : IntKind.i64.wrap ((pv : Int) + (sz k : Nat) + 1) = (pv : Int) + (sz k : Nat) + 1 := by rw [IntKind.wrap_i64]; omega
        have hw4 : IntKind.i64.wrap ((ov : Int) + 1) = (ov : Int) + 1 := by rw [IntKind.wrap_i64]; omega
        have hi1 : (k : Int) < (n : Int) := by omega
        have HNAPP := hide (fun (w3 : World) (b cap : Nat) (hown) (hgrow) (hat) => hN2.app (w1 := w3) (b := b) (cap := cap) (k := k) (o := .cells #[.int .i64 (ov : Nat), .int .i64 (pv : Nat)] 31) (s := ⟨(ov : Nat), (pv : Nat)⟩) (candL_length k) hown hgrow hat)
        rw [hg] at HNAPP
        clear hb2 hsp hlt hN2 HA hcb
        generalize wr.heap.size = Bx at *
        clear wr
        by_cases hkc : k < nc
        · have dc : decide ((k : Int) < (nc : Int)) = true := decide_eq_true (by omega)
          have dc' : decide (k < nc) = true := decide_eq_true hkc
          have hik : (k : Int) < (nc : Int) := by omega
          have hctk := HCT.out k hkc
          rw [if_pos hkc] at hoff
          have hcv : IntKind.i64.wrap ((ct k : Nat) : Int) = (ct k : Nat) := by rw [IntKind.wrap_i64]; omega
          have hw5 : IntKind.i64.wrap ((ov : Int) + 1 + (ct k : Nat)) = (ov : Int) + 1 + (ct k : Nat) := by rw [IntKind.wrap_i64]; omega
          have HKC := hide hkc
          have HOF := hide hoff
          have HCU := hide hcut
          clear hoff hcut hkc HCS HCT2 hob
          go_wp2_with (at_builtin; refine wpList_append_lies _ rfl _ _ 39 rfl g 31 i0 (.agg #[.int .i64 0, .int .i64 0]) 2 16 Try.underlying39 hi hz0 hz1 hz2 rfl (by decide) _ k (spotCells (candL nc ct sz k)) rfl (HSP.out.alloc _) ⟨w2.heap.size, 0, none⟩ 1 1 [.int .i64 (ov : Nat), .int .i64 (pv : Nat)] rfl rfl (World.news_of_block (heap_alloc_new w2 (.cells #[.int .i64 (ov : Nat), .int .i64 (pv : Nat)] 31))) (by intro u hu; simp at hu; rcases hu with rfl | rfl <;> rfl) (by omega) (by unfold maxLen; omega) (by omega) (by simp; omega) _ rfl ?_; intro b cap w3 hown hgrow hat hlt1; have HN3' := hide (HNAPP.out w3 b cap hown hgrow hat); clear hown hgrow hat hlt1; obtain ⟨sb, sf, rfl, cs⟩ := (HS.out.below HN3'.out.bel (Nat.le_refl _)) k HLT.out; obtain ⟨tb, tf, rfl, cs2⟩ := (HS2.out.below HN3'.out.bel (Nat.le_refl _)) k HKC.out)
          go_roundw
          case rel => exact ⟨k + 1, HLT.out, by go_num, by rw [HOF.out]; go_num, by rw [HCU.out]; go_num, hide (fun j hj => by
            by_cases e : j = k
            · rw [e, hcl]; exact HP.out
            · exact HPL.out j (by omega)), by rw [HCLK.out]; exact HN3'⟩
          case measure => have := HLT.out; simp [intOf]; omega
        · have dc : decide ((k : Int) < (nc : Int)) = false := decide_eq_false (by omega)
          have dc' : decide (k < nc) = false := decide_eq_false hkc
          rw [if_neg hkc] at hoff
          have HOF := hide hoff
          have HCU := hide hcut
          clear hoff hcut hkc HCS HCT2 hob
          go_wp2_with (at_builtin; refine wpList_append_lies _ rfl _ _ 39 rfl g 31 i0 (.agg #[.int .i64 0, .int .i64 0]) 2 16 Try.underlying39 hi hz0 hz1 hz2 rfl (by decide) _ k (spotCells (candL nc ct sz k)) rfl (HSP.out.alloc _) ⟨w2.heap.size, 0, none⟩ 1 1 [.int .i64 (ov : Nat), .int .i64 (pv : Nat)] rfl rfl (World.news_of_block (heap_alloc_new w2 (.cells #[.int .i64 (ov : Nat), .int .i64 (pv : Nat)] 31))) (by intro u hu; simp at hu; rcases hu with rfl | rfl <;> rfl) (by omega) (by unfold maxLen; omega) (by omega) (by simp; omega) _ rfl ?_; intro b cap w3 hown hgrow hat hlt1; have HN3' := hide (HNAPP.out w3 b cap hown hgrow hat); clear hown hgrow hat hlt1; obtain ⟨sb, sf, rfl, cs⟩ := (HS.out.below HN3'.out.bel (Nat.le_refl _)) k HLT.out)
          go_roundw
          case rel => exact ⟨k + 1, HLT.out, by go_num, by rw [HOF.out]; go_num, by rw [HCU.out]; go_num, hide (fun j hj => by
            by_cases e : j = k
            · rw [e, hcl]; exact HP.out
            · exact HPL.out j (by omega)), by rw [HCLK.out]; exact HN3'⟩
          case measure => have := HLT.out; simp [intOf]; omega
      | false =>
        have hE : addE (nearL st nc ct sz k) (candN nc ct sz k) = 2 := by unfold addE; rw [if_neg (by rw [hm]; simp)]
        unfold candN at hE
        have hP := near_maynot hm HCT.out hk300
        rw [hE] at HA
        have hp1 : decide ((16777216 : Int) < ((cutsAt sz k : Nat) : Int)) = true := decide_eq_true (by omega)
        have hp2 : decide (16777216 < cutsAt sz k) = true := decide_eq_true hP
        clear hm hE HNS hob hcb hoff hcut hszk hlt
        generalize offN nc ct k = ov at *
        generalize cutsAt sz k = pv at *
        go_wp2_with fail
        refine HA.out.mono ?_
        rintro e w2 ⟨rfl, hN2, _⟩
        have HB2 := hide hN2.bel
        clear hN2 HA
        go_wp2_with fail
        refine (known_ok w2).mono ?_
        rintro e w3 ⟨rfl, hB3⟩
        have HB3 := hide (HB2.out.trans (hB3.mono HB2.out.size))
        clear hB3
        go_wp2_with fail
        go_ret
        exact ⟨rfl, HB3.out⟩
    · as_aux_lemma =>
        obtain rfl : k = n := by omega
        have d1 : decide ((k : Int) < (k : Int)) = false := decide_eq_false (by omega)
        have d1' : decide (k < k) = false := decide_eq_false (by omega)
        have hk3 : k ≤ 300 := HN3.out
        have hln := nearL_len (st := st) (nc := nc) (ct := ct) (sz := sz) k
        have HWF := hide (nearL_WF (st := st) (nc := nc) (ct := ct) (sz := sz) k)
        have HFI : Hid (∀ i, i < k → ∃ s : S2, lastR (fun s => decide (((offN nc ct i : Nat) : Int) < s.o)) (nearL st nc ct sz k) = s ∧ lastB (fun s => decide (((offN nc ct i : Nat) : Int) < s.o)) (nearL st nc ct sz k) = true ∧ lastR (fun s => decide (((cutsAt sz i : Nat) : Int) < s.p)) (nearL st nc ct sz k) = s ∧ lastB (fun s => decide (((cutsAt sz i : Nat) : Int) < s.p)) (nearL st nc ct sz k) = true ∧ s.o ≤ (offN nc ct i : Nat) ∧ ((cutsAt sz i : Nat) : Int) - s.p < st ∧ 0 ≤ s.p ∧ s.p ≤ (cutsAt sz i : Nat)) := hide (fun i (hi : i < k) => by
          have N := near_finds (K := k) HST1.out HCT.out hk3 hi (HPL.out i hi)
          exact ⟨_, N.fo, N.bo, N.fp, N.bp, N.le, N.near, N.lo.1, N.lo.2⟩)
        have HCG : Hid (∀ i, i < k → (candL nc ct sz k).getD i default = ⟨(offN nc ct i : Nat), (cutsAt sz i : Nat)⟩) := hide (fun i hi => candL_get hi)
        have HOK := hide (fun i => HOB.out i)
        have HCK := hide (fun i hi => HCB.out i hi)
        obtain ⟨u0, hu0, _⟩ := HNS.out.ix
        have HBY := hide (Bytes_ok hu0 HST1.out HST2.out (by omega))
        have hRF := readF_byt HWF.out HST1.out HST2.out (by omega)
        have hbl := bytesL_length st (nearL st nc ct sz k)
        have HBL : Hid ((bytesL st (nearL st nc ct sz k)).length ≤ 100000) := hide (by omega)
        have HRF := hide hRF
        have HBF := hide (bytF_lt st (nearL st nc ct sz k))
        have HBG : Hid (∀ j, bytF st (nearL st nc ct sz k) j = (bytesL st (nearL st nc ct sz k)).getD j 0) := hide (fun j => rfl)
        have HLN : Hid ((nearL st nc ct sz k).length ≤ 300) := hide (by omega)
        clear hlt hk hu0 hRF hbl hln hk3 HADD HSUC HOFF HCUT HOB HCB HCL HS HS2 HSZ HCT K0
        generalize nearL st nc ct sz k = L at *
        generalize bytF st L = fb at *
        generalize bytesL st L = BL at *
        go_wp2_with fail
        refine HBY.out.mono ?_
        rintro e w2 ⟨bv, rfl, hrow, hB2⟩
        obtain ⟨ba, bcap, rfl, hble, hcells⟩ := bytes_any hrow
        have HN2 := hide (HNS.out.call hB2)
        have HRD := hide (Read_ok fb HBF.out ba BL.length bcap w2 HBL.out hble (fun j hj => by obtain ⟨b, o, e1, e2⟩ := hcells j hj; exact ⟨b, o, e1, by rw [e2]; show some (Value.int .u8 (BL.getD j 0 : Nat)) = some (Value.int .u8 (fb j : Nat)); rw [HBG.out]⟩))
        clear hrow hB2 hble hcells HBY HNS
        generalize BL.length = bl at *
        go_wp2_with fail
        refine HRD.out.mono ?_
        rintro e w3 ⟨hB3, _, hsome⟩
        obtain ⟨g2, v2, rfl, hg2, hy⟩ := hsome st L HRF.out
        have HN3' := hide (HN2.out.call hB3)
        have HY := hide hy
        obtain ⟨u3, hu3, _⟩ := HN3'.out.ix
        have HU := hide hu3
        have HL1 := hide (Len_ok hy HST.out)
        have HL2 := hide (Len_ok hu3 HST.out)
        obtain ⟨ao, capS, rfl, _, hnil, hsS, hat⟩ := OwnSpots.any HN3'.out.sp
        have HSS := hide hsS
        have HB3 := hide HN3'.out.bel
        have HFX := hide (fun (W : World) (i : Nat) (hB : Below w3.heap.size w3 W) => Find_ok (offN nc ct i : Nat) (hu3.call hB) HST.out (by have := HLN.out; omega) HWF.out.rise.mono)
        have HFY := hide (fun (W : World) (i : Nat) (hB : Below w3.heap.size w3 W) => Find_ok (offN nc ct i : Nat) (hy.call hB) HST.out (by have := HLN.out; omega) HWF.out.rise.mono)
        have HAX := hide (fun (W : World) (i : Nat) (hB : Below w3.heap.size w3 W) => At_ok (cutsAt sz i : Nat) (hu3.call hB) HST.out (by have := HLN.out; omega) (fun a b hab hb => by
          by_cases e : a = b
          · rw [e]; exact Int.le_refl _
          · have := (HWF.out.rise a b (by omega) hb).2; omega))
        clear hsome hy hu3 hB3 hsS hat hnil HRD HN2 HN3' HU HY
        dsimp only
        rw [candL_length]
        go_wp2_with fail
        refine HL1.out.mono ?_
        rintro e w' ⟨rfl, rfl⟩
        go_wp2_with fail
        refine HL2.out.mono ?_
        rintro e w' ⟨rfl, rfl⟩
        clear HL1 HL2
        go_wp2_with fail
        go_loopw [20] (fun i wr => ∃ j : Nat, j ≤ k ∧ i = .int .i64 j ∧ Hid (Below w3.heap.size w3 wr)) (fun i _ => k - (intOf i).toNat)
        case atStart => exact ⟨0, Nat.zero_le _, rfl, Below.refl _ _⟩
        case round =>
          obtain ⟨j, hj, rfl, HB⟩ := hrel
          by_cases hlt : j < k
          · as_aux_lemma =>
              have d3 : decide ((j : Int) < (k : Int)) = true := decide_eq_true (by omega)
              have d3' : decide (j < k) = true := decide_eq_true hlt
              have hi1 : (j : Int) < (k : Int) := by omega
              obtain ⟨s, e1, e2, e3, e4, e5, e6, e7, e8⟩ := HFI.out j hlt
              have H1 := hide (HFX.out wr j HB.out)
              have H2 := hide (fun (W : World) (hB : Below w3.heap.size w3 W) => HFY.out W j hB)
              have H3 := hide (fun (W : World) (hB : Below w3.heap.size w3 W) => HAX.out W j hB)
              rw [e1, e2] at H1
              rw [e1, e2] at H2
              rw [e3, e4] at H3
              obtain ⟨rb, of, rfl, m0, m1⟩ := HSS.out j (by rw [candL_length]; exact hlt)
              rw [HCG.out j hlt] at m0 m1
              dsimp only at m0 m1
              have hrb := World.block_lt_of_cell? w3 _ m0
              have HM := hide (fun (W : World) (hB : Below w3.heap.size w3 W) => And.intro ((hB.cell (p := ⟨rb, of + j * 2, none⟩) hrb).trans m0) ((hB.cell (p := ⟨rb, of + j * 2 + 1, none⟩) hrb).trans m1))
              have hoj := HOK.out j
              have hcj := HCK.out j (by omega)
              have HJ := hide hlt
              obtain ⟨so, sp⟩ := s
              dsimp only at e5 e6 e7 e8
              unfold spotV at H1 H2 H3
              dsimp only at H1 H2 H3
              have hk3 : k ≤ 300 := HN3.out
              have q1 : decide (((offN nc ct j : Nat) : Int) < so) = false := decide_eq_false (by omega)
              have q2 : decide (st ≤ ((cutsAt sz j : Nat) : Int) - sp) = false := decide_eq_false (by omega)
              have hwd : IntKind.i64.wrap (((cutsAt sz j : Nat) : Int) - sp) = ((cutsAt sz j : Nat) : Int) - sp := by rw [IntKind.wrap_i64]; omega
              clear e1 e2 e3 e4 e5 e6 e7 e8 hoj hcj m0 m1 hrb hlt HFI HFX HFY HAX HSS HCG HOK HCK HPL hk3 HWF HRF HBF HBG HBL
              obtain ⟨m0, m1⟩ := HM.out wr HB.out
              generalize offN nc ct j = ov at *
              generalize cutsAt sz j = pv at *
              go_wp2_with fail
              refine H1.out.mono ?_
              rintro e w4 ⟨rfl, hB4⟩
              have HB4 := hide (HB.out.trans (hB4.mono HB.out.size))
              clear m0 m1 hB4 H1
              obtain ⟨m0, m1⟩ := HM.out _ (HB4.out.alloc HB4.out.size (.cells #[.int .i64 so, .int .i64 sp] 31))
              go_wp2_with fail
              refine (H2.out _ (HB4.out.alloc HB4.out.size _)).mono ?_
              rintro e w5 ⟨rfl, hB5⟩
              have HB5 := hide ((HB4.out.alloc HB4.out.size (.cells #[.int .i64 so, .int .i64 sp] 31)).trans (hB5.mono (HB4.out.alloc HB4.out.size _).size))
              have HS5 : Hid (w5.heap[w4.heap.size]? = some (.cells #[.int .i64 so, .int .i64 sp] 31 (0, 0))) := hide ((hB5.block _ (by simp)).trans (heap_alloc_new w4 _))
              clear m0 m1 hB5 H2 HB4
              generalize w4.heap.size = Bs at *
              clear w4
              obtain ⟨m0, m1⟩ := HM.out _ (HB5.out.alloc HB5.out.size (.cells #[.int .i64 so, .int .i64 sp] 31))
              go_wp2_with fail
              refine (H3.out _ (HB5.out.alloc HB5.out.size _)).mono ?_
              rintro e w6 ⟨rfl, hB6⟩
              have HB6 := hide ((HB5.out.alloc HB5.out.size (.cells #[.int .i64 so, .int .i64 sp] 31)).trans (hB6.mono (HB5.out.alloc HB5.out.size _).size))
              have hS6 : w6.heap[Bs]? = some (.cells #[.int .i64 so, .int .i64 sp] 31 (0, 0)) := ((hB6.block Bs (by have := (Array.getElem?_eq_some_iff.1 HS5.out).1; simp; omega)).trans (Below.heap_alloc _ _ _ (Array.getElem?_eq_some_iff.1 HS5.out).1)).trans HS5.out
              have hT6 : w6.heap[w5.heap.size]? = some (.cells #[.int .i64 so, .int .i64 sp] 31 (0, 0)) := (hB6.block _ (by simp)).trans (heap_alloc_new w5 _)
              have HS7 : Hid ((w6.alloc (.cells #[.int .i64 so, .int .i64 sp] 31)).heap[Bs]? = some (.cells #[.int .i64 so, .int .i64 sp] 31 (0, 0))) := hide ((Below.heap_alloc _ _ _ (Array.getElem?_eq_some_iff.1 hS6).1).trans hS6)
              have HT7 : Hid ((w6.alloc (.cells #[.int .i64 so, .int .i64 sp] 31)).heap[w5.heap.size]? = some (.cells #[.int .i64 so, .int .i64 sp] 31 (0, 0))) := hide ((Below.heap_alloc _ _ _ (Array.getElem?_eq_some_iff.1 hT6).1).trans hT6)
              have HU7 := hide (heap_alloc_new w6 (.cells #[.int .i64 so, .int .i64 sp] 31))
              have HB7 := hide (HB6.out.alloc HB6.out.size (.cells #[.int .i64 so, .int .i64 sp] 31))
              clear m0 m1 hB6 H3 HB5 HS5 hS6 hT6 HB6
              generalize w5.heap.size = Bt at *
              clear w5
              go_wp2_with fail
              generalize w6.heap.size = Bu at *
              generalize (w6.alloc (.cells #[.int .i64 so, .int .i64 sp] 31)) = w7 at *
              clear w6
              obtain ⟨m0, m1⟩ := HM.out _ HB7.out
              have s0 := cell_of_row _ Bs 0 _ _ _ HS7.out
              have s1 := cell_of_row _ Bs 1 _ _ _ HS7.out
              have t0 := cell_of_row _ Bt 0 _ _ _ HT7.out
              have t1 := cell_of_row _ Bt 1 _ _ _ HT7.out
              have u0 := cell_of_row _ Bu 0 _ _ _ HU7.out
              have u1 := cell_of_row _ Bu 1 _ _ _ HU7.out
              simp at s0 s1 t0 t1 u0 u1
              go_quiet (fail)
              go_wp2_with fail
              go_roundw
              case rel => exact ⟨j + 1, HJ.out, by go_num, hide (belowDrewN HB7.out _)⟩
              case measure => have := HJ.out; simp [intOf]; omega
          · as_aux_lemma =>
              obtain rfl : j = k := by omega
              have d3 : decide ((j : Int) < (j : Int)) = false := decide_eq_false (by omega)
              have d3' : decide (j < j) = false := decide_eq_false (by omega)
              go_wp2_with fail
              refine (known_ok wr).mono ?_
              rintro e w5 ⟨rfl, hB5⟩
              have HB5 := hide (HB.out.trans (hB5.mono HB.out.size))
              clear hB5
              go_wp2_with fail
              go_ret
              exact ⟨rfl, HB3.out.trans (HB5.out.mono HB3.out.size)⟩
end Go.Proofs.Ythbknahmmegcdaa
