/- Walk of the law SchedBound. -/
import Derived.Test.YtcdphilgnlcahaaBoundPlain
import Derived.Test.YtcdphilgnlcahaaVast
import Derived.Test.YtcdphilgnlcahaaKnown
namespace Go.Proofs.Ytcdphilgnlcahaa
open Go.RowKit

theorem Try.info22 : (Try.prog.info? 22).map (fun i => (i.zero, i.size, i.bytes)) = some (some (.slice none 0 0), 1, 24) := by kernel_rfl

/-- what holds at each round's head: m steps since the counts began anew -/
def BRel (w wr : World) (B fb gb cap n0 : Nat) (k : Int) (i : Nat) (v8 v9 : Value) : Prop :=
  ∃ (m : Nat) (lw : Nat → Int) (Aw : Nat → Option Addr) (Lw Cw : Nat → Nat) (pw : Nat → Nat → Bool), m ≤ i ∧
    wr.ownsRow B 3 1 v8 m (rowF (fun j => .int .i64 (lw j)) m) ∧ wr.ownsRow B 22 1 v9 m (rowF (fun j => .slice (Aw j) (Lw j) (Cw j)) m) ∧
    (∀ j, j < m → Lw j = n0 ∧ 0 ≤ lw j ∧ lw j < (n0 : Int) ∧ pw j (lw j).toNat = true ∧ Bools w (Aw j) (Lw j) (pw j)) ∧
    FairAt wr fb gb cap k n0 (pas lw pw m) ∧ Few (max k 1) n0 (pas lw pw m) ∧ BoundOk k n0 (mostAt lw pw n0 m) ∧ Below w.heap.size w wr ∧ B ≤ wr.heap.size

def upd {α : Type} (f : Nat → α) (m : Nat) (x : α) : Nat → α := fun j => if j = m then x else f j
theorem upd_at {α : Type} (f : Nat → α) (m : Nat) (x : α) : upd f m x m = x := if_pos rfl
theorem upd_lt {α : Type} (f : Nat → α) {m j : Nat} (x : α) (h : j < m) : upd f m x j = f j := if_neg (by omega)
theorem rowF_upd (G : Nat → Value) (H : Nat → Value) (m : Nat) (h : ∀ j, j < m → H j = G j) : rowF H (m + 1) = rowF G m ++ [H m] := by
  rw [rowF_succ]
  congr 1
  unfold rowF
  exact List.map_congr_left (fun j hj => h j (by simpa using hj))
theorem pas_congr {l l' : Nat → Int} {p p' : Nat → Nat → Bool} (m : Nat) (h : ∀ j, j < m → l' j = l j ∧ p' j = p j) : pas l' p' m = pas l p m := by
  induction m with
  | zero => rfl
  | succ m ih => rw [pas, pas, ih (fun j hj => h j (by omega)), (h m (by omega)).1, (h m (by omega)).2]
theorem most_congr {l l' : Nat → Int} {p p' : Nat → Nat → Bool} (n0 m : Nat) (h : ∀ j, j < m → l' j = l j ∧ p' j = p j) : mostAt l' p' n0 m = mostAt l p n0 m := by
  induction m with
  | zero => rfl
  | succ m ih => rw [mostAt, mostAt, ih (fun j hj => h j (by omega)), pas_congr m (fun j hj => h j (by omega)), (h m (by omega)).1, (h m (by omega)).2]

theorem kept_below {w w' : World} {B T n : Nat} {v : Value} {xs : List Value} (h : w.ownsRow B T 1 v n xs) (hb : Below w.heap.size w w') : w'.ownsRow B T 1 v n xs :=
  h.kept (row := none) ⟨hb.os, hb.tape, hb.output, hb.size, fun k hk _ => hb.block k hk⟩ (by cases v.ownBlock <;> simp)
theorem kept_gb {w w' : World} {B T n gb : Nat} {v : Value} {xs : List Value} (h : w.ownsRow B T 1 v n xs) (hg : w.grownBy w' (some gb)) (hlt : gb < B) : w'.ownsRow B T 1 v n xs :=
  h.kept hg (.inr (fun e => by have := (h.lt gb e).1; omega))
theorem kept_other {w w' : World} {B T T' n n' : Nat} {v u : Value} {xs ys : List Value} (h : w.ownsRow B T 1 v n xs) (hu : w.ownsRow B T' 1 u n' ys) (hT : T ≠ T') (hg : w.grownBy w' u.ownBlock) : w'.ownsRow B T 1 v n xs := by
  refine h.kept hg ?_
  cases hv : v.ownBlock with
  | none => exact .inl rfl
  | some g =>
    refine .inr (fun e => ?_)
    rcases h.2 with ⟨rfl, _⟩ | ⟨g1, c1, cur1, rfl, _, h1, _⟩
    · cases hv
    · rcases hu.2 with ⟨rfl, _⟩ | ⟨g2, c2, cur2, rfl, _, h2, _⟩
      · cases e
      · simp only [Value.ownBlock, Option.some.injEq] at hv e
        subst hv
        rw [e, h2] at h1
        injection h1 with h1
        injection h1 with _ h1 _
        exact hT h1.symm
theorem FairAt.grown {w w' : World} {fb gb cap n : Nat} {k : Int} {q : Nat → Int} {r : Option Nat} (h : FairAt w fb gb cap k n q) (hg : w.grownBy w' r) (h1 : some fb ≠ r) (h2 : some gb ≠ r) : FairAt w' fb gb cap k n q :=
  h.same (hg.block _ h.lt.1 h1) (hg.block _ h.lt.2 h2)
theorem FairAt.own {w w' : World} {fb gb cap n B T m : Nat} {k : Int} {q : Nat → Int} {v : Value} {xs : List Value} (h : FairAt w fb gb cap k n q) (ho : w.ownsRow B T 1 v m xs) (h1 : fb < B) (h2 : gb < B) (hg : w.grownBy w' v.ownBlock) : FairAt w' fb gb cap k n q :=
  h.grown hg (fun e => by have := (ho.lt fb e.symm).1; omega) (fun e => by have := (ho.lt gb e.symm).1; omega)
theorem below_own {w0 w w' : World} {B T m D : Nat} {v : Value} {xs : List Value} (h : Below D w0 w) (ho : w.ownsRow B T 1 v m xs) (hD : D ≤ B) (hs : D ≤ w.heap.size) (hg : w.grownBy w' v.ownBlock) : Below D w0 w' :=
  h.grown hg hs (fun k hk => Nat.le_trans hD (ho.lt k hk).1)
theorem FairAt.congr {w : World} {fb gb cap n : Nat} {k : Int} {q q' : Nat → Int} (h : FairAt w fb gb cap k n q) (e : ∀ j, j < n → q' j = q j) : FairAt w fb gb cap k n q' :=
  ⟨h.ne, h.f, by obtain ⟨cur, h1, h2, h3⟩ := h.g; exact ⟨cur, h1, h2, fun j hj => by rw [h3 j hj, e j hj]⟩⟩

theorem BRel.below {w wr w2 : World} {B fb gb cap n0 i : Nat} {k : Int} {v8 v9 : Value} (h : BRel w wr B fb gb cap n0 k i v8 v9) (hb : Below wr.heap.size wr w2) : BRel w w2 B fb gb cap n0 k (i + 1) v8 v9 := by
  obtain ⟨m, lw, Aw, Lw, Cw, pw, h1, h2, h3, h4, h5, h6, h7, h8, h9⟩ := h
  exact ⟨m, lw, Aw, Lw, Cw, pw, by omega, kept_below h2 hb, kept_below h3 hb, h4, h5.below hb, h6, h7, h8.trans (hb.mono h8.size), Nat.le_trans h9 hb.size⟩

theorem fairQ_idle {k : Int} {q : Nat → Int} {p : Nat → Bool} {n : Nat} {pick : Int} (hF : fairN k q p n pick < 0) (j : Nat) (hj : j < n) : fairQ q p (fairN k q p n pick) j = 0 := by
  have hr : (rdy p n).length = 0 := by
    by_cases hr : (rdy p n).length = 0
    · exact hr
    · exact absurd (refQ_eq k q p n pick hr).2 (by omega)
  unfold fairQ
  rw [if_neg (by rw [rdy_zero p n hr j hj]; simp)]

theorem BRel.anew {w w2 : World} {B fb gb cap n0 i : Nat} {k : Int} {q : Nat → Int} (hF : FairAt w2 fb gb cap k n0 q) (hq : ∀ j, j < n0 → q j = 0) (hB : Below w.heap.size w w2) (hs : B ≤ w2.heap.size) :
    BRel w w2 B fb gb cap n0 k i (.slice none 0 0) (.slice none 0 0) :=
  ⟨0, fun _ => 0, fun _ => none, fun _ => 0, fun _ => 0, fun _ _ => false, Nat.zero_le _, World.ownsRow_nil _ _ _ _, World.ownsRow_nil _ _ _ _, fun j hj => by omega, hF.congr (fun j hj => (hq j hj).symm), few_zero _ _,
    ⟨Int.le_refl _, fun _ => rfl, fun _ => by simp [mostAt]; omega⟩, hB, hs⟩

theorem bound_bad (ao : Option Addr) (n c : Nat) (A : Nat → Option Addr) (L C : Nat → Nat) (K : Nat → Int) (p : Nat → Nat → Bool) (k : Int) (w : World) (hm : n ≤ 9223372036854775807)
    (h : TurnsAt w ao n A L C K p) (hbad : (400 < n ∨ ∃ i, i < n ∧ 200 < L i) ∨ n = 0 ∨ k < 0) :
    Calls Try.prog 7 #[.int .i64 k, .slice ao n c] w fun e w' => e = .returned (.bool true) ∧ Below w.heap.size w w' := by
  by_cases hv : 400 < n ∨ ∃ i, i < n ∧ 200 < L i
  · have HV := hide hv
    clear hv hbad
    go_enter Try.func7, Try.ntmps7
    go_wp2_with fail
    refine (vast_yes ao n c A L C K p w hm h HV.out).mono ?_
    rintro e w' ⟨rfl, rfl⟩
    go_wp2_with fail
    refine (known_ok w).mono ?_
    rintro e w' ⟨rfl, hB⟩
    go_wp2
    go_ret
    exact ⟨rfl, hB⟩
  · have hn : n ≤ 400 := by omega
    have HL : Hid (∀ i, i < n → L i ≤ 200) := hide (fun i hi => by
      by_cases h2 : 200 < L i
      · exact absurd (.inr ⟨i, hi, h2⟩) hv
      · omega)
    have hb := hbad.resolve_left hv
    clear hbad hv
    by_cases h0 : n = 0
    · subst h0
      clear hb
      go_enter Try.func7, Try.ntmps7
      go_wp2_with fail
      refine (vast_no ao 0 c A L C K p w h hn HL.out).mono ?_
      rintro e w' ⟨rfl, rfl⟩
      go_wp2_with fail
      refine (known_ok w).mono ?_
      rintro e w' ⟨rfl, hB⟩
      go_wp2
      go_ret
      exact ⟨rfl, hB⟩
    · have hk : k < 0 := by omega
      have hn0 : ((n : Int) == 0) = false := by simp; omega
      clear hb
      go_enter Try.func7, Try.ntmps7
      go_wp2_with fail
      refine (vast_no ao n c A L C K p w h hn HL.out).mono ?_
      rintro e w' ⟨rfl, rfl⟩
      go_wp2_with fail
      refine (known_ok w).mono ?_
      rintro e w' ⟨rfl, hB⟩
      go_wp2
      go_ret
      exact ⟨rfl, hB⟩

set_option maxHeartbeats 3200000 in
set_option maxRecDepth 100000 in
theorem bound_ok (ao : Option Addr) (n c : Nat) (A : Nat → Option Addr) (L C : Nat → Nat) (K : Nat → Int) (p : Nat → Nat → Bool) (k : Int) (w : World)
    (h : TurnsAt w ao n A L C K p) (hn1 : 1 ≤ n) (hn : n ≤ 400) (hL : ∀ i, i < n → L i ≤ 200) (hk : 0 ≤ k) (hk2 : k ≤ 9223372036854775807) :
    Calls Try.prog 7 #[.int .i64 k, .slice ao n c] w fun e w' => e = .returned (.bool true) ∧ Below w.heap.size w w' := by
  have HL := hide hL
  have hL0 := hL 0 (by omega)
  have hn0 : ((n : Int) == 0) = false := by simp; omega
  obtain ⟨b0, off0, rfl, hc0, _⟩ := h.at_ 0 (by omega)
  rw [Nat.zero_mul, Nat.add_zero] at hc0
  clear hL
  by_cases hz : L 0 = 0
  · have hz' : (L 0 : Int) < 1 := by omega
    have HZ := hide hz
    clear hz
    go_enter Try.func7, Try.ntmps7
    go_wp2_with fail
    refine (vast_no _ n c A L C K p w h hn HL.out).mono ?_
    rintro e w' ⟨rfl, rfl⟩
    go_wp2_with fail
    refine (New_bad (L 0 : Int) k w (.inl hz')).mono ?_
    rintro e w' ⟨rfl, rfl⟩
    go_wp2_with fail
    refine (known_ok w).mono ?_
    rintro e w' ⟨rfl, hB⟩
    go_wp2
    go_ret
    exact ⟨rfl, hB⟩
  · go_enter Try.func7, Try.ntmps7
    go_wp2_with fail
    refine (vast_no _ n c A L C K p w h hn HL.out).mono ?_
    rintro e w' ⟨rfl, rfl⟩
    go_wp2_with fail
    refine (New_ok (L 0) k w (by omega) (by omega) hk).mono ?_
    rintro e w1 ⟨fb, gb, cap, rfl, hF, hf1, hg1, hB1⟩
    have hgl := hF.lt
    obtain ⟨i3, hi3, hz30, hz31, hz32⟩ := info_parts Try.info3
    obtain ⟨i22, hi22, hz220, hz221, hz222⟩ := info_parts Try.info22
    go_wp2_with fail
    go_loopw [8, 9, 10] (fun v8 v9 i wr => ∃ i' : Nat, i' ≤ n ∧ i = .int .i64 i' ∧ BRel w wr w1.heap.size fb gb cap (L 0) k i' v8 v9) (fun _ _ i _ => n - (intOf i).toNat)
    case atStart => exact ⟨0, Nat.zero_le _, rfl, 0, fun _ => 0, fun _ => none, fun _ => 0, fun _ => 0, fun _ _ => false, Nat.le_refl _, World.ownsRow_nil _ _ _ _, World.ownsRow_nil _ _ _ _, fun j hj => by omega, hF, few_zero _ _, ⟨Int.le_refl _, fun _ => rfl, fun _ => by simp [mostAt]; omega⟩, hB1, Nat.le_refl _⟩
    case round =>
      obtain ⟨i, hi, rfl, hR⟩ := hrel
      by_cases hlt : i < n
      · have hR' := hR
        obtain ⟨m, lw, Aw, Lw, Cw, pw, hmi, ho8, ho9, hprev, hFr, hfew, hbnd, hB, hsz⟩ := hR
        have hT := h.belowB hB (Nat.le_refl _)
        obtain ⟨b', off', e', hcA, hcK⟩ := hT.at_ i hlt
        injection e' with e'
        injection e' with e1 e2
        subst e1 e2
        have hLi := HL.out i hlt
        have hKs := h.size i hlt
        have hbi := hT.can i hlt
        have hold := h.old i hlt
        have hgF := hFr.lt
        have HR := hide hR'
        have HFR := hide hFr
        have HBI := hide hbi
        have HOLD := hide hold
        have HPREV := hide hprev
        clear hR' hFr hbi hold hprev hT
        by_cases hbad : K i < 0 ∨ L i ≠ L 0
        · have HBAD := hide hbad
          clear hbad
          go_wp2_with fail
          refine (Fnext_bad fb gb cap (L 0) k _ (A i) (L i) (C i) (K i) wr (by omega) (by omega) HFR.out HBAD.out).mono ?_
          rintro e w2 ⟨rfl, hB2⟩
          go_wp2
          go_roundw
          case rel => exact ⟨i + 1, by omega, by go_num, HR.out.below hB2⟩
          case measure => simp [intOf]; omega
        · have hLe : L i = L 0 := by omega
          have hK0 : 0 ≤ K i := by omega
          have HLE := hide hLe
          rw [hLe] at hcA
          have hne : Hid (∀ b off, A i = some ⟨b, off, none⟩ → b ≠ gb) := hide (fun b off e => by
            rcases HOLD.out b off e with h | h
            · omega
            · have := hB1.size; omega)
          have hbL : Bools wr (A i) (L 0) (p i) := by rw [← hLe]; exact HBI.out
          have HBL := hide hbL
          clear hbad hLe hbL
          go_wp2_with fail
          refine (Fnext_ok fb gb cap (L 0) k _ (A i) (C i) (p i) (K i) wr (by omega) (by omega) HFR.out HBL.out hne.out hK0 hKs.2.2 (fun j hj => by have := pas_bd lw pw m j; omega)).mono ?_
          rintro e w2 ⟨rfl, hF2, hG2⟩
          have hB2 : Below w.heap.size w w2 := Below.ofGrown hB hG2 hg1 hB.size
          have hs2 : w1.heap.size ≤ w2.heap.size := Nat.le_trans hsz hG2.size
          by_cases hFneg : fairN k (pas lw pw m) (p i) (L 0) (K i) < 0
          · have HQ := hide (fairQ_idle hFneg)
            have HF2 := hide hF2
            rw [if_pos hFneg, if_pos hFneg]
            clear hF2 hFneg
            go_wp2
            go_roundw
            case rel => exact ⟨i + 1, by omega, by go_num, BRel.anew HF2.out HQ.out hB2 hs2⟩
            case measure => simp [intOf]; omega
          · rw [if_neg hFneg, if_neg hFneg]
            obtain ⟨t, ht, htn, hpt⟩ := fairN_ok k (pas lw pw m) (p i) (L 0) (K i) hK0 (by omega)
            have hfew2 := hide (few_step (p i) (K i) hK0 hfew (by omega))
            have hbnd2 := hide (bound_step (p i) (K i) (by omega) hK0 (fun j => (pas_bd lw pw m j).1) hfew hbnd (by omega))
            rw [ht] at hF2 hfew2 hbnd2 ⊢
            have HF2 := hide hF2
            have ho8' := kept_gb ho8 hG2 (by omega)
            have ho9' := kept_gb ho9 hG2 (by omega)
            have hbw2 : Bools w2 (A i) (L 0) (p i) := by rw [← HLE.out]; exact (h.belowB hB2 (Nat.le_refl _)).can i hlt
            obtain ⟨bt, ot, hAi, hct⟩ := hbw2 t htn
            rw [hpt] at hct
            have HBW2 := hide hbw2
            have HPT := hide hpt
            have HAI := hide hAi
            have hpk : pkP (p i) (L 0) (t : Int) = ((rdy (p i) t).length : Nat) ∧ pkE (p i) (L 0) (t : Int) = 0 := ⟨by unfold pkP; rw [if_neg (by omega), if_pos (by simpa using hpt), pick_eq (p i) t (L 0) htn hpt], by unfold pkE; rw [if_neg (by omega), if_pos (by simpa using hpt)]⟩
            have hnx : nxT (p i) (L 0) (((rdy (p i) t).length : Nat) : Int) = t ∧ nxE (p i) (L 0) (((rdy (p i) t).length : Nat) : Int) = 0 := by simpa using rdy_next (p i) t (L 0) 0 htn hpt
            have hrl := rdy_le (p i) t
            have HPK := hide hpk
            have HNX := hide hnx
            rw [hAi] at hcA ⊢
            clear hF2 ho8 ho9 hFneg ht hfew hbnd hbw2 hpt hpk hnx hAi
            go_wp2_with fail
            refine (Pick_any _ (L 0) (C i) (p i) (t : Int) w2 (by omega) (by omega) (by rw [← HAI.out]; exact HBW2.out)).mono ?_
            rw [HPK.out.1, HPK.out.2]
            rintro e w3 ⟨rfl, hB3⟩
            go_wp2_with fail
            refine (Next_any _ (L 0) (C i) (p i) _ w3 (by omega) (by omega) (by rw [← HAI.out]; exact HBW2.out.below hB3)).mono ?_
            rw [HNX.out.1, HNX.out.2]
            rintro e w4 ⟨rfl, hB4⟩
            have hB24 := hB3.trans (hB4.mono hB3.size)
            have hx8 := kept_below ho8' hB24
            have hx9 := kept_below ho9' hB24
            have HF4 := hide (HF2.out.below hB24)
            have hB4' := hB2.trans (hB24.mono hB2.size)
            have hs4 := Nat.le_trans hs2 hB24.size
            clear ho8' ho9' hB24 hB3 hB4
            go_wp2_with (first
              | (at_builtin; refine wpList_append_src rfl (.tmp 114) (.tmp 116) 37 rfl w1.heap.size 3 i3 (.int .i64 0) 1 8 Try.underlying37 hi3 hz30 hz31 hz32 rfl (by decide) _ m _ rfl (hx8.alloc _) (some ⟨w4.heap.size, 0, none⟩) 1 1 [.int .i64 (t : Int)] rfl rfl (by intro h; cases h) (by intro ad had; injection had with had; subst had; exact cell_one_new _ _ _) (one_cell _ rfl) (by unfold maxLen; omega) (by omega) (by simp; omega) ?_; intro v8' w5 hown8 hgrow8)
              | (at_builtin; refine wpList_append_src rfl (.tmp 118) (.tmp 120) 46 rfl w1.heap.size 22 i22 (.slice none 0 0) 1 24 Try.underlying46 hi22 hz220 hz221 hz222 rfl (by decide) _ m _ rfl ((kept_other (hx9.alloc _) (hx8.alloc _) (by decide) hgrow8).alloc _) (some ⟨w5.heap.size, 0, none⟩) 1 1 [.slice (some ⟨bt, ot, none⟩) (L 0) (C i)] rfl rfl (by intro h; cases h) (by intro ad had; injection had with had; subst had; exact cell_one_new _ _ _) (one_cell _ rfl) (by unfold maxLen; omega) (by omega) (by have := hgrow8.size; simp at this; simp; omega) ?_; intro v9' w6 hown9 hgrow9))
            have hg8 : (w4.alloc (.cells #[.int .i64 (t : Int)] 3)).grownBy w5 u8.ownBlock := hgrow8
            have hv9 := (kept_other (hx9.alloc (.cells #[.int .i64 (t : Int)] 3)) (hx8.alloc (.cells #[.int .i64 (t : Int)] 3)) (by decide) hg8).alloc (.cells #[.slice (some ⟨bt, ot, none⟩) (L 0) (C i)] 22)
            have hg9 : (w5.alloc (.cells #[.slice (some ⟨bt, ot, none⟩) (L 0) (C i)] 22)).grownBy w6 u9.ownBlock := hgrow9
            have hz8 := kept_other (hown8.alloc (.cells #[.slice (some ⟨bt, ot, none⟩) (L 0) (C i)] 22)) hv9 (by decide) hg9
            have hs5 : w1.heap.size ≤ w5.heap.size := by have := hg8.size; simp at this; omega
            have hs6 : w1.heap.size ≤ w6.heap.size := by have := hg9.size; simp at this; omega
            have hF5 := (HF4.out.below ((Below.refl _ _).alloc (Nat.le_refl _) _)).own (hx8.alloc (.cells #[.int .i64 (t : Int)] 3)) hgl.1 hgl.2 hg8
            have hF6 := (hF5.below ((Below.refl _ _).alloc (Nat.le_refl _) _)).own hv9 hgl.1 hgl.2 hg9
            have hB5 := below_own (hB4'.alloc hB4'.size (.cells #[.int .i64 (t : Int)] 3)) (hx8.alloc (.cells #[.int .i64 (t : Int)] 3)) hB1.size (by have := hB4'.size; simp; omega) hg8
            have hB6 := below_own (hB5.alloc hB5.size (.cells #[.slice (some ⟨bt, ot, none⟩) (L 0) (C i)] 22)) hv9 hB1.size (by have := hB5.size; simp; omega) hg9
            have HF6 := hide hF6
            rw [show [Value.int .i64 (t : Int)] = [(fun j => Value.int .i64 (upd lw m (t : Int) j)) m] by simp [upd], ← rowF_upd _ (fun j => Value.int .i64 (upd lw m (t : Int) j)) m (fun j hj => by simp only [upd_lt _ _ hj])] at hz8
            rw [show [Value.slice (some ⟨bt, ot, none⟩) (L 0) (C i)] = [(fun j => Value.slice (upd Aw m (A i) j) (upd Lw m (L 0) j) (upd Cw m (C i) j)) m] by simp [upd, HAI.out], ← rowF_upd _ (fun j => Value.slice (upd Aw m (A i) j) (upd Lw m (L 0) j) (upd Cw m (C i) j)) m (fun j hj => by simp only [upd_lt _ _ hj])] at hown9
            have HO8 := hide hz8
            have HO9 := hide hown9
            have hprev' : ∀ j, j < m + 1 → upd Lw m (L 0) j = L 0 ∧ 0 ≤ upd lw m (t : Int) j ∧ upd lw m (t : Int) j < ((L 0 : Nat) : Int) ∧ upd pw m (p i) j (upd lw m (t : Int) j).toNat = true ∧ Bools w (upd Aw m (A i) j) (upd Lw m (L 0) j) (upd pw m (p i) j) := by
              intro j hj
              by_cases e : j = m
              · subst e
                simp only [upd_at]
                exact ⟨trivial, by omega, by omega, by rw [Int.toNat_natCast]; exact HPT.out, by have := h.can i hlt; rwa [HLE.out] at this⟩
              · simp only [upd_lt _ _ (show j < m by omega)]
                exact HPREV.out j (by omega)
            have hL0' : upd Lw m (L 0) 0 = L 0 := (hprev' 0 (by omega)).1
            have hmost : mostAt (upd lw m (t : Int)) (upd pw m (p i)) (L 0) (m + 1) = mx (pas lw pw m) (p i) (t : Int) (mostAt lw pw (L 0) m) (L 0) := by
              rw [mostAt, upd_at, upd_at, pas_congr m (fun j hj => ⟨upd_lt lw _ hj, upd_lt pw _ hj⟩), most_congr (L 0) m (fun j hj => ⟨upd_lt lw _ hj, upd_lt pw _ hj⟩)]
            have hpas : pas (upd lw m (t : Int)) (upd pw m (p i)) (m + 1) = fairQ (pas lw pw m) (p i) (t : Int) := by
              rw [pas, upd_at, upd_at, pas_congr m (fun j hj => ⟨upd_lt lw _ hj, upd_lt pw _ hj⟩)]
            have HNEW : Hid (∀ w7, Below w6.heap.size w6 w7 → BRel w w7 w1.heap.size fb gb cap (L 0) k (i + 1) v8' v9') := hide (fun w7 hb => by
              refine ⟨m + 1, _, _, _, _, _, by omega, kept_below hz8 hb, kept_below hown9 hb, hprev', ?_, ?_, ?_, hB6.trans (hb.mono hB6.size), Nat.le_trans hs6 hb.size⟩
              · rw [hpas]; exact hF6.below hb
              · rw [hpas]; exact hfew2.out
              · rw [hmost]; exact hbnd2.out)
            have HPREV' := hide hprev'
            have HL0 := hide hL0'
            have HMOST := hide hmost
            clear hprev' hL0' hmost hpas hz8 hown8 hown9 hgrow8 hgrow9 hg8 hg9 hv9 hx8 hx9 hF5 hF6
            obtain ⟨a8, c8, e8, _, _, hc8, _⟩ := own_any HO8.out
            obtain ⟨a9, c9, e9, _, _, hc9, _⟩ := own_any HO9.out
            subst e8 e9
            have HB6 := hide hB6
            refine (Most_ok a8 a9 (m + 1) c8 c9 _ _ _ _ _ w6 (by omega) (by omega) (by rw [HL0.out]; omega) hc8 ⟨hc9, fun j hj => by
              obtain ⟨_, _, _, _, hbj⟩ := HPREV'.out j hj
              intro x hx
              obtain ⟨b2, o2, e2, h2⟩ := hbj x hx
              exact ⟨b2, o2, e2, (HB6.out.cell (World.block_lt_of_cell? w _ h2)).trans h2⟩⟩).mono ?_
            rintro e w7 ⟨he, _, hB7⟩
            obtain rfl := he (fun j hj => by
              obtain ⟨g1, g2, g3, g4, _⟩ := HPREV'.out j hj
              exact ⟨by rw [g1, HL0.out], g2, by rw [HL0.out]; exact g3, g4⟩)
            rw [HL0.out, HMOST.out]
            clear he hc8 hc9
            have hbd3 := hbnd2.out
            obtain ⟨hX0, hX1, hX2⟩ := hbd3
            generalize mx (pas lw pw m) (p i) (t : Int) (mostAt lw pw (L 0) m) (L 0) = X at *
            have hNEW2 := hide (HNEW.out w7 hB7)
            by_cases hone : L 0 = 1
            · have hx := hX1 hone
              have hb1 : (((L 0 : Nat) : Int) == 1) = true := by simp [hone]
              have hb2 : (X != 0) = false := by simp [hx]
              have hb3 : ¬ (1 : Int) < ((L 0 : Nat) : Int) := by omega
              have hd1 : decide ((1 : Int) < ((L 0 : Nat) : Int)) = false := by simp; omega
              have hd2 : decide (1 < L 0) = false := by simp; omega
              have HONE := hide hone
              clear hone hx hX1 hX2
              go_wp2
              go_roundw
              case rel => exact ⟨i + 1, by omega, by go_num, hNEW2.out⟩
              case measure => simp [intOf]; omega
            · have hx := hX2 (by omega)
              have hb1 : (((L 0 : Nat) : Int) == 1) = false := by simp; omega
              have hb3 : (1 : Int) < ((L 0 : Nat) : Int) := by omega
              have hd1 : decide ((1 : Int) < ((L 0 : Nat) : Int)) = true := by simp; omega
              have hd2 : decide (1 < L 0) = true := by simp; omega
              clear hX1 hX2
              by_cases hk1 : k < 1
              · have hx2 : X ≤ ((L 0 : Nat) : Int) - 1 := by omega
                clear hx
                go_wp2
                go_roundw
                case rel => exact ⟨i + 1, by omega, by go_num, hNEW2.out⟩
                case measure => simp [intOf]; omega
              · have hx2 : X ≤ k + ((L 0 : Nat) : Int) - 2 := by omega
                clear hx
                go_wp2
                go_roundw
                case rel => exact ⟨i + 1, by omega, by go_num, hNEW2.out⟩
                case measure => simp [intOf]; omega
      · have hni : i = n := by omega
        obtain ⟨m, lw, Aw, Lw, Cw, pw, hmi, ho8, ho9, hprev, hFr, hfew, hbnd, hB, hsz⟩ := hR
        clear ho8 ho9 hprev hFr hfew hbnd hni
        go_wp2_with fail
        refine (known_ok wr).mono ?_
        rintro e w' ⟨rfl, hB'⟩
        go_wp2
        go_ret
        exact ⟨rfl, hB.trans (hB'.mono hB.size)⟩

theorem bound_walk (ao : Option Addr) (n c : Nat) (A : Nat → Option Addr) (L C : Nat → Nat) (K : Nat → Int) (p : Nat → Nat → Bool) (k : Int) (w : World) (hm : n ≤ 9223372036854775807)
    (hk : -9223372036854775808 ≤ k ∧ k ≤ 9223372036854775807) (h : TurnsAt w ao n A L C K p) :
    Calls Try.prog 7 #[.int .i64 k, .slice ao n c] w fun e w' => e = .returned (.bool true) ∧ Below w.heap.size w w' := by
  by_cases hbad : (400 < n ∨ ∃ i, i < n ∧ 200 < L i) ∨ n = 0 ∨ k < 0
  · exact bound_bad ao n c A L C K p k w hm h hbad
  · refine bound_ok ao n c A L C K p k w h (by omega) (by omega) (fun i hi => ?_) (by omega) hk.2
    by_cases h2 : 200 < L i
    · exact absurd (.inl (.inr ⟨i, hi, h2⟩)) hbad
    · omega
end Go.Proofs.Ytcdphilgnlcahaa
