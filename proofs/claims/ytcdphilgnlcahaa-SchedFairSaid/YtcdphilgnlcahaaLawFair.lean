/- Walk of the law SchedFair. -/
import Derived.Test.YtcdphilgnlcahaaRefFair
import Derived.Test.YtcdphilgnlcahaaVast
import Derived.Test.YtcdphilgnlcahaaKnown
import Derived.Test.YtcdphilgnlcahaaLawBound
import Derived.Deep.RegionHeld3
namespace Go.Proofs.Ytcdphilgnlcahaa
open Go.RowKit

/-- what holds at each round's head: the program's and the reference's hold the same counts -/
structure FRel (w wr : World) (fb gb cap rb rgb rcap n0 : Nat) (k : Int) (i : Nat) (q : Nat → Int) : Prop where
  f : FairAt wr fb gb cap k n0 q
  r : FairAt wr rb rgb rcap k n0 q
  bd : ∀ j, 0 ≤ q j ∧ q j ≤ (i : Int)
  below : Below w.heap.size w wr
  new : w.heap.size ≤ fb ∧ w.heap.size ≤ gb ∧ w.heap.size ≤ rb ∧ w.heap.size ≤ rgb
  ne : fb ≠ rgb ∧ gb ≠ rb ∧ gb ≠ rgb ∧ fb ≠ rb

/-- what Next answers, of any list and pick -/
def ansT (k : Int) (q : Nat → Int) (p : Nat → Bool) (n m : Nat) (pick : Int) : Int := if pick < 0 ∨ m ≠ n then 0 else if fairN k q p n pick < 0 then 0 else fairN k q p n pick
def ansE (k : Int) (q : Nat → Int) (p : Nat → Bool) (n m : Nat) (pick : Int) : Int := if pick < 0 ∨ m ≠ n then 2 else if fairN k q p n pick < 0 then 250 else 0
def ansQ (k : Int) (q : Nat → Int) (p : Nat → Bool) (n m : Nat) (pick : Int) : Nat → Int := if pick < 0 ∨ m ≠ n then q else fairQ q p (fairN k q p n pick)
theorem ansQ_bd {k : Int} {q : Nat → Int} {p : Nat → Bool} {n m : Nat} {pick B : Int} (h : ∀ j, 0 ≤ q j ∧ q j ≤ B) : ∀ j, 0 ≤ ansQ k q p n m pick j ∧ ansQ k q p n m pick j ≤ B + 1 := by
  intro j
  have := h j
  unfold ansQ
  split
  · omega
  · unfold fairQ; split <;> omega
theorem grown_of_below {w w' : World} (h : Below w.heap.size w w') (r : Option Nat) : w.grownBy w' r := ⟨h.os, h.tape, h.output, h.size, fun k hk _ => h.block k hk⟩

theorem Fnext_all (fb gb cap n : Nat) (k : Int) (q : Nat → Int) (a : Option Addr) (m c : Nat) (p : Nat → Bool) (pick : Int) (w : World) (h1 : 1 ≤ n) (h2 : n ≤ 100000)
    (h : FairAt w fb gb cap k n q) (hb : Bools w a m p) (hne : ∀ b off, a = some ⟨b, off, none⟩ → m = 0 ∨ b ≠ gb) (h3 : pick ≤ 9223372036854775807) (hq : ∀ j, 0 ≤ q j ∧ q j ≤ 1000000) :
    Calls Try.prog 16 #[.pointer (some ⟨fb, 0, none⟩), .slice a m c, .int .i64 pick] w fun e w' =>
      e = .returned (.tuple #[.int .i64 (ansT k q p n m pick), .int .i64 (ansE k q p n m pick)]) ∧ FairAt w' fb gb cap k n (ansQ k q p n m pick) ∧ w.grownBy w' (some gb) := by
  unfold ansT ansE ansQ
  by_cases hbad : pick < 0 ∨ m ≠ n
  · rw [if_pos hbad, if_pos hbad, if_pos hbad]
    refine (Fnext_bad fb gb cap n k q a m c pick w h1 h2 h hbad).mono ?_
    rintro e w' ⟨he, hB⟩
    exact ⟨he, h.below hB, grown_of_below hB _⟩
  · rw [if_neg hbad, if_neg hbad, if_neg hbad]
    have e : m = n := by omega
    subst e
    exact Fnext_ok fb gb cap m k q a c p pick w h1 h2 h hb (fun b off e => (hne b off e).resolve_left (by omega)) (by omega) h3 (fun j _ => hq j)

theorem refFair_all (fb gb cap n : Nat) (k : Int) (q : Nat → Int) (a : Option Addr) (m c : Nat) (p : Nat → Bool) (pick : Int) (w : World) (h1 : 1 ≤ n) (h2 : n ≤ 100000)
    (h : FairAt w fb gb cap k n q) (hb : Bools w a m p) (hne : ∀ b off, a = some ⟨b, off, none⟩ → m = 0 ∨ b ≠ gb) (h3 : pick ≤ 9223372036854775807) (hq : ∀ j, 0 ≤ q j ∧ q j ≤ 1000000) :
    Calls Try.prog 17 #[.pointer (some ⟨fb, 0, none⟩), .slice a m c, .int .i64 pick] w fun e w' =>
      e = .returned (.tuple #[.int .i64 (ansT k q p n m pick), .int .i64 (ansE k q p n m pick)]) ∧ FairAt w' fb gb cap k n (ansQ k q p n m pick) ∧ w.grownBy w' (some gb) := by
  unfold ansT ansE ansQ
  by_cases hbad : pick < 0 ∨ m ≠ n
  · rw [if_pos hbad, if_pos hbad, if_pos hbad]
    refine (refFair_bad fb gb cap n k q a m c pick w h hbad).mono ?_
    rintro e w' ⟨he, hB⟩
    subst hB
    exact ⟨he, h, World.grownBy_refl _ _⟩
  · rw [if_neg hbad, if_neg hbad, if_neg hbad]
    have e : m = n := by omega
    subst e
    exact refFair_ok fb gb cap m k q a c p pick w h1 h2 h hb (fun b off e => (hne b off e).resolve_left (by omega)) (by omega) h3 (fun j _ => hq j)

theorem FairAt.drew {w : World} {fb gb cap n : Nat} {k : Int} {q : Nat → Int} (h : FairAt w fb gb cap k n q) : FairAt w.drew fb gb cap k n q := ⟨h.ne, h.f, h.g⟩
theorem FRel.bools {w wr : World} {ao : Option Addr} {n : Nat} {A : Nat → Option Addr} {L C : Nat → Nat} {K : Nat → Int} {p : Nat → Nat → Bool} (h : TurnsAt w ao n A L C K p) (hb : Below w.heap.size w wr) (i : Nat) (hi : i < n) :
    Bools wr (A i) (L i) (p i) := (h.belowB hb (Nat.le_refl _)).can i hi
theorem turns_ne {w : World} {ao : Option Addr} {n g : Nat} {A : Nat → Option Addr} {L C : Nat → Nat} {K : Nat → Int} {p : Nat → Nat → Bool} (h : TurnsAt w ao n A L C K p) (i : Nat) (hi : i < n) (hg : w.heap.size ≤ g) :
    ∀ b off, A i = some ⟨b, off, none⟩ → L i = 0 ∨ b ≠ g := fun b off e => (h.old i hi b off e).imp id (fun h => by omega)

set_option maxHeartbeats 3200000 in
set_option maxRecDepth 100000 in
theorem fair_ok (ao : Option Addr) (n c : Nat) (A : Nat → Option Addr) (L C : Nat → Nat) (K : Nat → Int) (p : Nat → Nat → Bool) (n0 : Nat) (k : Int) (w : World)
    (h : TurnsAt w ao n A L C K p) (hn : n ≤ 400) (hL : ∀ i, i < n → L i ≤ 200) (h1 : 1 ≤ n0) (h2 : n0 ≤ 200) (hk : 0 ≤ k) (hk2 : k ≤ 9223372036854775807) :
    Calls Try.prog 5 #[.int .i64 n0, .int .i64 k, .slice ao n c] w fun e w' => e = .returned (.bool true) ∧ Below w.heap.size w w' := by
  have HL := hide hL
  obtain ⟨i3, hi3, hz30, hz31, hz32⟩ := info_parts Try.info3
  clear hL
  go_enter Try.func5, Try.ntmps5
  go_wp2_with fail
  refine (vast_no ao n c A L C K p w h hn HL.out).mono ?_
  rintro e w' ⟨rfl, rfl⟩
  go_wp2_with fail
  refine (New_ok n0 k w (by omega) (by omega) hk).mono ?_
  rintro e w1 ⟨fb, gb, cap, rfl, hF, hf1, hg1, hB1⟩
  go_wp2_with (at_make; refine wpList_make_full _ rfl _ _ 37 rfl w1.heap.size 3 i3 (.int .i64 0) 1 Try.underlying37 hi3 hz30 hz31 .i64 .i64 _ _ n0 rfl rfl rfl rfl (by rw [hz32]; omega) (by unfold maxLen; omega) (Nat.le_refl _) ?_; intro w2 hown2 hgrow2; rw [made_zero] at hown2)
  have hB2 : Below w1.heap.size w1 w2 := (Below.refl _ _).grown hgrow2 (Nat.le_refl _) (by simp)
  have hR : FairAt (w2.alloc (.cells #[.int .i64 k, .slice (some ⟨w1.heap.size, 0, none⟩) n0 n0] 39)) w2.heap.size w1.heap.size n0 k n0 (fun _ => 0) := by
    obtain ⟨g, cap', cur, hv, hg, hcur, hsz, hc⟩ := own_ints hown2 (by omega)
    simp only [Value.slice.injEq, Option.some.injEq, Addr.mk.injEq] at hv
    obtain ⟨⟨rfl, _⟩, _, rfl⟩ := hv
    exact FairAt.made hcur hsz hc
  have hF3 := (hF.below hB2).below ((Below.refl w2.heap.size w2).alloc (Nat.le_refl _) (.cells #[.int .i64 k, .slice (some ⟨w1.heap.size, 0, none⟩) n0 n0] 39))
  have hB3 := (hB1.trans (hB2.mono hB1.size)).alloc (Nat.le_trans hB1.size hB2.size) (.cells #[.int .i64 k, .slice (some ⟨w1.heap.size, 0, none⟩) n0 n0] 39)
  have hFlt := hF.lt
  have hs1 := hB1.size
  have hs2 := hB2.size
  have hrel0 : FRel w (w2.alloc (.cells #[.int .i64 k, .slice (some ⟨w1.heap.size, 0, none⟩) n0 n0] 39)) fb gb cap w2.heap.size w1.heap.size n0 n0 k 0 (fun _ => 0) :=
    ⟨hF3, hR, fun j => by simp, hB3, ⟨hf1, hg1, by omega, by omega⟩, ⟨by omega, by omega, by omega, by omega⟩⟩
  obtain ⟨w3, hw3⟩ : ∃ w3, w3 = w2.alloc (.cells #[.int .i64 k, .slice (some ⟨w1.heap.size, 0, none⟩) n0 n0] 39) := ⟨_, rfl⟩
  rw [← hw3] at hrel0 ⊢
  clear hw3 hF3 hB3 hR hB2 hown2 hgrow2 hF hB1 hFlt hs1 hs2 hf1 hg1
  generalize w2.heap.size = rb at *
  generalize w1.heap.size = rgb at *
  go_loopw [7, 10] (fun f i wr => ∃ i' : Nat, i' ≤ n ∧ i = .int .i64 i' ∧ ∃ fb gb cap, f = .pointer (some ⟨fb, 0, none⟩) ∧ ∃ q, FRel w wr fb gb cap rb rgb n0 n0 k i' q) (fun _ i _ => n - (intOf i).toNat)
  case atStart => exact ⟨0, Nat.zero_le _, rfl, fb, gb, cap, rfl, _, hrel0⟩
  case round =>
    clear hrel0
    obtain ⟨i, hi, rfl, fb, gb, cap, rfl, q, hrl⟩ := hrel
    by_cases hlt : i < n
    · obtain ⟨hF, hR, hbd, hB, ⟨hn1, hn2, hn3, hn4⟩, ⟨hd1, hd2, hd3, hd4⟩⟩ := hrl
      have hFl := hF.lt
      have hRl := hR.lt
      have HBD := hide hbd
      have HF := hide hF
      have HR := hide hR
      have hLi := HL.out i hlt
      have hKs := h.size i hlt
      clear hF hR hbd
      go_wp2_with fail
      refine (Copy_ok fb gb cap n0 k q wr h1 (by omega) HF.out).mono ?_
      rintro e w4 ⟨fo, go, co, rfl, hFo, hfo, hgo, hB4⟩
      have hB4' := hB.trans (hB4.mono hB.size)
      have HF4 := hide (HF.out.below hB4)
      have HR4 := hide (HR.out.below hB4)
      have hFol := hFo.lt
      have HFO := hide hFo
      have hs4 := hB4.size
      obtain ⟨b', off', rfl, hcA, hcK⟩ := (h.belowB hB4' (Nat.le_refl _)).at_ i hlt
      have hbo : b' < w.heap.size := by obtain ⟨b2, o2, e2, h2, _⟩ := h.at_ i hlt; injection e2 with e2; injection e2 with e2 e3; subst e2; exact World.block_lt_of_cell? w _ h2
      clear hFo hB4 HF HR
      go_wp2_with fail
      refine (Fnext_all fo go co n0 k q (A i) (L i) (C i) (p i) 1 w4 h1 (by omega) HFO.out (FRel.bools h hB4' i hlt) (turns_ne h i hlt (by omega)) (by omega) (fun j => by have := HBD.out j; omega)).mono ?_
      rintro e w5 ⟨rfl, _, hG5⟩
      have hB5 := Below.ofGrown hB4' hG5 (by omega) hB4'.size
      have HF5 := hide (HF4.out.grown hG5 (by simp; omega) (by simp; omega))
      have HR5 := hide (HR4.out.grown hG5 (by simp; omega) (by simp; omega))
      have hcA5 := hG5.cell hcA (by simp; omega)
      have hcK5 := hG5.cell hcK (by simp; omega)
      have hs5 := hG5.size
      clear hcA hcK hG5 hB4' HF4 HR4 HFO
      go_wp2_with fail
      go_region_held3 (fun w' => w'.cell? ⟨b', off' + i * 2, none⟩ = some (.slice (A i) (L i) (C i)) ∧ w'.cell? ⟨b', off' + i * 2 + 1, none⟩ = some (.int .i64 (K i))) (first | exact ⟨hcA6, hcK6⟩ | go_keep)
        (first | (go_at_call 16; refine (Fnext_all fb gb cap n0 k q (A i) (L i) (C i) (p i) (K i) w5.drew h1 (by omega) HF5.out.drew (FRel.bools h hB5.drew i hlt) (turns_ne h i hlt (by omega)) hKs.2.2 (fun j => by have := HBD.out j; omega)).mono ?_; rintro e w6 ⟨rfl, hF6, hG6⟩; have hcA6 := hG6.cell hcA5 (by simp; omega); have hcK6 := hG6.cell hcK5 (by simp; omega)))
      have hB6 := Below.ofGrown hB5.drew hG6 (by omega) (by have := hB5.size; exact this)
      have HR6 := hide (HR5.out.drew.grown hG6 (by simp; omega) (by simp; omega))
      have hs6 := hG6.size
      have HF6 := hide hF6
      have HQB := hide (ansQ_bd (k := k) (p := p i) (n := n0) (m := L i) (pick := K i) HBD.out)
      clear hF6 hG6 hcA5 hcK5 HF5 HR5 hB5
      go_wp2_with fail
      go_region_held3 (fun w' => w'.cell? ⟨b', off' + i * 2, none⟩ = some (.slice (A i) (L i) (C i)) ∧ w'.cell? ⟨b', off' + i * 2 + 1, none⟩ = some (.int .i64 (K i))) (first | exact ⟨hcA7, hcK7⟩ | go_keep)
        (first | (go_at_call 17; refine (refFair_all rb rgb n0 n0 k q (A i) (L i) (C i) (p i) (K i) w6.drew h1 (by omega) HR6.out.drew (FRel.bools h hB6.drew i hlt) (turns_ne h i hlt (by omega)) hKs.2.2 (fun j => by have := HBD.out j; omega)).mono ?_; rintro e w7 ⟨rfl, hR7, hG7⟩; have hcA7 := hG7.cell hcA6 (by simp; omega); have hcK7 := hG7.cell hcK6 (by simp; omega)))
      have hs6' : w5.heap.size ≤ w6.heap.size := hs6
      have hB7 := Below.ofGrown hB6.drew hG7 (by omega) (by have := hB6.size; exact this)
      have HF7 := hide (HF6.out.drew.grown hG7 (by simp; omega) (by simp; omega))
      have HR7 := hide hR7
      have hs7 : w6.heap.size ≤ w7.heap.size := hG7.size
      clear hR7 hG7 hcA6 hcK6 hcA7 hcK7 HF6 HR6 hB6 hs6
      generalize ansT k q (p i) n0 (L i) (K i) = AT at *
      generalize ansE k q (p i) n0 (L i) (K i) = AE at *
      generalize ansQ k q (p i) n0 (L i) (K i) = AQ at *
      go_wp2_with fail
      refine (Passed_ok fb gb cap n0 k AQ w7 h1 (by omega) HF7.out).mono ?_
      rintro e w8 ⟨v, rfl, hown8, hB8⟩
      obtain ⟨g, cg, cur, rfl, hg1, hg2, hg3, hg4⟩ := own_ints hown8 h1
      have hO8 : OwnInts w8 g cg n0 AQ := ⟨cur, hg2, hg3, hg4⟩
      have hI8 : Ints w8 (some ⟨g, 0, none⟩) n0 AQ := fun j hj => ⟨g, 0, rfl, by simpa using hO8.cell j hj⟩
      have hB8' := hB7.trans (hB8.mono hB7.size)
      have HF8 := hide (HF7.out.below hB8)
      have hR8 := HR7.out.below hB8
      have hI8' := hR8.ints
      have hcr8 := hR8.cells
      have hs8 := hB8.size
      have HR8 := hide hR8
      have HI8 := hide hI8
      have HI8' := hide hI8'
      have HO8 := hide hO8
      have hrl8 := hR8.lt
      clear hown8 hg2 hg4 hB8 hB7 HF7 HR7 hR8 hI8 hI8' hO8
      go_wp2_with fail
      refine (refSame_ok _ _ n0 n0 cg n0 AQ AQ w8 (by omega) (by omega) HI8.out HI8'.out rfl (fun _ _ => rfl)).mono ?_
      rintro e w9 ⟨rfl, hB9⟩
      have hB9' := hB8'.trans (hB9.mono hB8'.size)
      have HF9 := hide (HF8.out.below hB9)
      have HR9 := hide (HR8.out.below hB9)
      have HO9 := hide (HO8.out.same (hB9.block g HO8.out.lt))
      have hs9 := hB9.size
      have ht1 : (AT != AT) = false := by simp
      have ht2 : (AE != AE) = false := by simp
      clear hB9 HI8 HI8' hB8' HF8 HR8 HO8 hcr8
      go_wp2_with fail
      go_loopw [18] (fun x wr => ∃ j : Nat, j ≤ n0 ∧ x = .int .i64 j ∧ OwnInts wr g cg n0 (fun x => if x < j then 9 else AQ x) ∧ FairAt wr fb gb cap k n0 AQ ∧ FairAt wr rb rgb n0 k n0 AQ ∧ Below w.heap.size w wr) (fun x _ => n0 - (intOf x).toNat)
      case atStart => exact ⟨0, Nat.zero_le _, rfl, HO9.out, HF9.out, HR9.out, hB9'⟩
      case round =>
        clear hB9' HF9 HR9 HO9
        obtain ⟨j, hj, rfl, hO, hFx, hRx, hBx⟩ := hrel
        by_cases hjl : j < n0
        · have hcj : wr.cell? ⟨g, j, none⟩ = some (.int .i64 (AQ j)) := by have := hO.cell j hjl; simpa using this
          have hfz := hO.free j
          have HO := hide (hO.set (q' := fun x => if x < j + 1 then 9 else AQ x) j 9 (by simp) (fun x hx => by by_cases e : x < j <;> simp [e, show (x < j + 1) = (x < j) by simp; omega]))
          have HFs := hide (hFx.same (w' := wr.setCell ⟨g, j, none⟩ (.int .i64 9)) (Below.heap_setCell _ _ _ _ (by simp; omega)) (Below.heap_setCell _ _ _ _ (by simp; omega)))
          have HRs := hide (hRx.same (w' := wr.setCell ⟨g, j, none⟩ (.int .i64 9)) (Below.heap_setCell _ _ _ _ (by simp; omega)) (Below.heap_setCell _ _ _ _ (by simp; omega)))
          have HBs := hide (hBx.setCell (p := ⟨g, j, none⟩) (by show w.heap.size ≤ g; omega) (.int .i64 9))
          clear hO hFx hRx hBx
          go_wp2
          go_roundw
          case rel => exact ⟨j + 1, by omega, by go_num, HO.out, HFs.out, HRs.out, HBs.out⟩
          case measure => simp [intOf]; omega
        · have HF := hide hFx
          have HR := hide hRx
          clear hO hFx hRx
          by_cases hodd : i % 2 = 1
          · have hb1 : ((i : Int) % 2 == 1) = true := by simp; omega
            have HOD := hide hodd
            clear hodd
            go_wp2_with fail
            refine (Copy_ok fb gb cap n0 k AQ wr h1 (by omega) HF.out).mono ?_
            rintro e w10 ⟨fb', gb', cap', rfl, hF10, hfb', hgb', hB10⟩
            have hrl := HR.out.lt
            have hbs := hBx.size
            have hfin : FRel w w10 fb' gb' cap' rb rgb n0 n0 k (i + 1) AQ :=
              ⟨hF10, HR.out.below hB10, fun j => by have := HQB.out j; push_cast; omega, hBx.trans (hB10.mono hBx.size), ⟨by omega, by omega, by omega, by omega⟩, ⟨by omega, by omega, by omega, by omega⟩⟩
            have HFIN := hide hfin
            clear hfin hF10 hB10
            go_wp2
            go_roundw
            case rel => exact ⟨i + 1, by omega, by go_num, fb', gb', cap', rfl, AQ, HFIN.out⟩
            case measure => simp [intOf]; omega
          · have hb1 : ((i : Int) % 2 == 1) = false := by simp; omega
            have hfin : FRel w wr fb gb cap rb rgb n0 n0 k (i + 1) AQ :=
              ⟨HF.out, HR.out, fun j => by have := HQB.out j; push_cast; omega, hBx, ⟨by omega, by omega, by omega, by omega⟩, ⟨by omega, by omega, by omega, by omega⟩⟩
            have HFIN := hide hfin
            have HOD := hide hodd
            clear hfin hodd
            go_wp2
            go_roundw
            case rel => exact ⟨i + 1, by omega, by go_num, fb, gb, cap, rfl, AQ, HFIN.out⟩
            case measure => simp [intOf]; omega
    · have hB := hrl.below
      clear hrl
      have hcl := @Lib.run_eql_slice_nil Try.prog
      go_wp2_with fail
      refine (Fnext_nil none 0 0 0 wr).mono ?_
      rintro e w4 ⟨rfl, hB4⟩
      go_wp2_with fail
      refine (Copy_nil w4).mono ?_
      rintro e w5 ⟨rfl, rfl⟩
      go_wp2_with fail
      refine (Passed_nil w4).mono ?_
      rintro e w5 ⟨rfl, rfl⟩
      go_wp2_with fail
      refine (known_ok w4).mono ?_
      rintro e w5 ⟨rfl, hB5⟩
      have hB4' := hB.trans (hB4.mono hB.size)
      go_wp2
      go_ret
      exact ⟨rfl, hB4'.trans (hB5.mono hB4'.size)⟩
end Go.Proofs.Ytcdphilgnlcahaa
