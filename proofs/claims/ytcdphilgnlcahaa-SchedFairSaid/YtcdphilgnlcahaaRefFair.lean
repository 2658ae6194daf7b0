/- Walks of the reference's (*Fair).Next and Same. -/
import Derived.Test.YtcdphilgnlcahaaRefNext
namespace Go.Proofs.Ytcdphilgnlcahaa
open Go.RowKit

theorem refSame_ok (a b : Option Addr) (n m c c' : Nat) (q r : Nat → Int) (w : World) (h2 : n ≤ 100000) (hm : m ≤ 100000) (ha : Ints w a n q) (hb : Ints w b m r) (hnm : n = m) (hqr : ∀ j, j < n → q j = r j) :
    Calls Try.prog 19 #[.slice a n c, .slice b m c'] w fun e w' => e = .returned (.bool true) ∧ Below w.heap.size w w' := by
  subst hnm
  have hnn : ((n : Int) != (n : Int)) = false := by simp
  have HQ := hide hqr
  clear hqr
  go_enter Try.func19, Try.ntmps19
  go_wp2
  go_loopw [5] (fun i wr => ∃ k : Nat, k ≤ n ∧ i = .int .i64 k ∧ Below w.heap.size w wr) (fun i _ => n - (intOf i).toNat)
  case atStart => exact ⟨0, Nat.zero_le _, rfl, Below.refl _ _⟩
  case round =>
    obtain ⟨k, hk, rfl, hB⟩ := hrel
    by_cases hlt : k < n
    · obtain ⟨b1, o1, rfl, hc1⟩ := ha.below hB k hlt
      obtain ⟨b2, o2, rfl, hc2⟩ := hb.below hB k hlt
      have hz := HQ.out k hlt
      rw [← hz] at hc2
      have hbb : (q k != q k) = false := by simp
      clear hz ha hb
      go_wp2_with fail
      go_quiet (fail)
      go_wp2
      go_roundw
      case rel => exact ⟨k + 1, by omega, by go_num, belowDrewN hB _⟩
      case measure => simp [intOf]; omega
    · go_wp2
      go_ret
      exact ⟨rfl, hB⟩

/-- the greatest count so far -/
def topAt (k : Int) (q : Nat → Int) (p : Nat → Bool) (j : Nat) : Int := if dueAt k q p j < 0 then -1 else q (dueAt k q p j).toNat
/-- who is next so far: t0 unless one must go -/
def dueT (k : Int) (q : Nat → Int) (p : Nat → Bool) (t0 : Nat) (j : Nat) : Int := if dueAt k q p j < 0 then t0 else dueAt k q p j

theorem due_step (k : Int) (q : Nat → Int) (p : Nat → Bool) (t0 j : Nat) (hq : 0 ≤ q j) :
    ((p j = true ∧ k ≤ q j ∧ topAt k q p j < q j) → topAt k q p (j + 1) = q j ∧ dueT k q p t0 (j + 1) = (j : Int)) ∧
    (¬ (p j = true ∧ k ≤ q j ∧ topAt k q p j < q j) → topAt k q p (j + 1) = topAt k q p j ∧ dueT k q p t0 (j + 1) = dueT k q p t0 j) := by
  have e : (p j = true ∧ k ≤ q j ∧ topAt k q p j < q j) ↔ (p j = true ∧ k ≤ q j ∧ (dueAt k q p j < 0 ∨ q (dueAt k q p j).toNat < q j)) := by
    unfold topAt
    by_cases h : dueAt k q p j < 0
    · simp only [h, if_true, true_or, and_true]
      constructor
      · exact fun h => ⟨h.1, h.2.1⟩
      · exact fun h => ⟨h.1, h.2, by omega⟩
    · simp only [h, if_false, false_or]
  constructor
  · intro h
    have h' := e.1 h
    have hd : dueAt k q p (j + 1) = (j : Int) := by rw [dueAt, if_pos h']
    unfold topAt dueT
    rw [hd]
    simp
    omega
  · intro h
    have h' := fun h'' => h (e.2 h'')
    have hd : dueAt k q p (j + 1) = dueAt k q p j := by rw [dueAt, if_neg h']
    unfold topAt dueT
    rw [hd]
    exact ⟨rfl, rfl⟩

/-- the reference's Fair: who is next, and the counts -/
def refTask (k : Int) (q : Nat → Int) (p : Nat → Bool) (n : Nat) (pick : Int) : Int := dueT k q p (nxT p n pick) n

theorem refQ_eq (k : Int) (q : Nat → Int) (p : Nat → Bool) (n : Nat) (pick : Int) (hr : (rdy p n).length ≠ 0) : refTask k q p n pick = fairN k q p n pick ∧ 0 ≤ fairN k q p n pick := by
  unfold refTask dueT fairN byPick
  rw [if_neg hr]
  by_cases h : dueAt k q p n < 0
  · rw [if_pos h, if_neg (by omega)]; exact ⟨rfl, by omega⟩
  · rw [if_neg h, if_pos (by omega)]; exact ⟨rfl, by omega⟩

theorem dueAt_rdy (k : Int) (q : Nat → Int) (p : Nat → Bool) (j : Nat) : ∀ m : Nat, dueAt k q p j = (m : Int) → p m = true := by
  induction j with
  | zero => intro m h; simp [dueAt] at h
  | succ j ih =>
    intro m h
    unfold dueAt at h
    split at h
    · rename_i h1
      have : j = m := by omega
      subst this
      exact h1.1
    · exact ih m h
theorem rdy_zero (p : Nat → Bool) (n : Nat) (hr : (rdy p n).length = 0) (j : Nat) (hj : j < n) : p j = false := by
  cases hp : p j with
  | false => rfl
  | true => have := (rdy_get p j n hj hp).1; omega
theorem fairN_idle (k : Int) (q : Nat → Int) (p : Nat → Bool) (n : Nat) (pick : Int) (hr : (rdy p n).length = 0) : fairN k q p n pick = -1 := by
  unfold fairN byPick
  rw [if_pos hr]
  rcases dueAt_or k q p n with h | ⟨m, hm, h⟩
  · rw [if_neg (by omega)]
  · have h1 := dueAt_rdy k q p n m h
    rw [rdy_zero p n hr m hm] at h1
    cases h1

theorem refFair_bad (fb gb cap n : Nat) (k : Int) (q : Nat → Int) (a : Option Addr) (m c : Nat) (pick : Int) (w : World)
    (h : FairAt w fb gb cap k n q) (hbad : pick < 0 ∨ m ≠ n) :
    Calls Try.prog 17 #[.pointer (some ⟨fb, 0, none⟩), .slice a m c, .int .i64 pick] w fun e w' => e = .returned (.tuple #[.int .i64 0, .int .i64 2]) ∧ w = w' := by
  have hc1 := h.cells
  by_cases hp : pick < 0
  · clear hbad
    go_enter Try.func17, Try.ntmps17
    go_wp2
    go_ret2
    exact ⟨rfl, rfl⟩
  · have hmn : m ≠ n := by omega
    have hmn' : ((m : Int) != (n : Int)) = true := by simp; omega
    clear hbad
    go_enter Try.func17, Try.ntmps17
    go_wp2
    go_ret2
    exact ⟨rfl, rfl⟩

/-- the reference's task in the idle case: whatever, the counts are all 0 -/
def refQ (k : Int) (q : Nat → Int) (p : Nat → Bool) (n : Nat) (pick : Int) : Nat → Int := fairQ q p (fairN k q p n pick)

set_option maxHeartbeats 1600000 in
theorem refFair_ok (fb gb cap n : Nat) (k : Int) (q : Nat → Int) (a : Option Addr) (c : Nat) (p : Nat → Bool) (pick : Int) (w : World) (h1 : 1 ≤ n) (h2 : n ≤ 100000)
    (h : FairAt w fb gb cap k n q) (hb : Bools w a n p) (hne : ∀ b off, a = some ⟨b, off, none⟩ → b ≠ gb) (h0 : 0 ≤ pick) (h3 : pick ≤ 9223372036854775807)
    (hq : ∀ j, j < n → 0 ≤ q j ∧ q j ≤ 1000000) :
    Calls Try.prog 17 #[.pointer (some ⟨fb, 0, none⟩), .slice a n c, .int .i64 pick] w fun e w' =>
      e = .returned (.tuple #[.int .i64 (if fairN k q p n pick < 0 then 0 else fairN k q p n pick), .int .i64 (if fairN k q p n pick < 0 then 250 else 0)]) ∧
      FairAt w' fb gb cap k n (fairQ q p (fairN k q p n pick)) ∧ w.grownBy w' (some gb) := by
  obtain ⟨F, hF0⟩ : ∃ F : Int, fairN k q p n pick = F := ⟨_, rfl⟩
  rw [hF0]
  have hcase0 : Hid ((nxE p n pick = 250 ∧ F = -1 ∧ Hid (∀ x, x < n → p x = false)) ∨ (nxE p n pick = 0 ∧ dueT k q p (nxT p n pick) n = F ∧ 0 ≤ F)) := hide (by
    rw [← hF0]
    by_cases hr : (rdy p n).length = 0
    · exact .inl ⟨by simp [nxE, hr]; omega, fairN_idle k q p n pick hr, hide (rdy_zero p n hr)⟩
    · exact .inr ⟨by simp [nxE, hr]; omega, refQ_eq k q p n pick hr⟩)
  clear hF0
  have hc0 := h.cellk
  have hc1 := h.cells
  have hnn : ((n : Int) != (n : Int)) = false := by simp
  go_enter Try.func17, Try.ntmps17
  go_wp2_with fail
  refine (refNext_any a n c p pick w h2 h3 hb).mono ?_
  rintro e w' ⟨rfl, rfl⟩
  have HQ : Hid (∀ j, 0 ≤ q j → _) := hide (fun j => due_step k q p (nxT p n pick) j)
  go_wp2_with fail
  go_loopw [8, 10, 11] (fun t g i wr => ∃ j : Nat, j ≤ n ∧ i = .int .i64 j ∧ t = .int .i64 (dueT k q p (nxT p n pick) j) ∧ g = .int .i64 (topAt k q p j) ∧ FairAt wr fb gb cap k n q ∧ Bools wr a n p ∧ w.grownBy wr (some gb)) (fun _ _ i _ => n - (intOf i).toNat)
  case atStart => exact ⟨0, Nat.zero_le _, rfl, rfl, rfl, h, hb, World.grownBy_refl _ _⟩
  case round =>
    clear hc0 hc1 h hb
    obtain ⟨j, hj, rfl, rfl, rfl, hF, hb, hG⟩ := hrel
    by_cases hlt : j < n
    · obtain ⟨b, off, rfl, hcx⟩ := hb j hlt
      have hcq : wr.cell? ⟨gb, j, none⟩ = some (.int .i64 (q j)) := hF.cell j hlt
      have hc0 := hF.cellk
      have hc1 := hF.cells
      have hj1 : (j : Int) < (n : Int) := by omega
      have hst := HQ.out j (hq j hlt).1
      have Hb : Hid (∀ m, Bools (wr.drewN m) (some ⟨b, off, none⟩) n p) := hide (fun m => hb)
      have HF : Hid (∀ m, FairAt (wr.drewN m) fb gb cap k n q) := hide (fun m => ⟨hF.ne, hF.f, hF.g⟩)
      have HG : Hid (∀ m, w.grownBy (wr.drewN m) (some gb)) := hide (fun m => ⟨hG.os, hG.tape, hG.output, hG.size, hG.block⟩)
      clear hF hG hb hne
      generalize hT : topAt k q p j = T at *
      generalize hD : dueT k q p (nxT p n pick) j = D at *
      clear hT hD
      cases hp : p j with
      | false =>
        rw [hp] at hcx
        have Hs := hide (hst.2 (by simp [hp]))
        clear hst hp
        go_wp2_with fail
        go_quiet (fail)
        go_wp2
        go_roundw
        case rel => exact ⟨j + 1, by omega, by go_num, by rw [Hs.out.2], by rw [Hs.out.1], HF.out _, Hb.out _, HG.out _⟩
        case measure => simp [intOf]; omega
      | true =>
        rw [hp] at hcx
        by_cases hk : k ≤ q j
        · have hkd : decide (k ≤ q j) = true := by simpa using hk
          by_cases hT2 : T < q j
          · have hTd : decide (T < q j) = true := by simpa using hT2
            have Hs := hide (hst.1 ⟨hp, hk, hT2⟩)
            clear hst hp
            go_wp2_with fail
            go_quiet (fail)
            go_wp2
            go_roundw
            case rel => exact ⟨j + 1, by omega, by go_num, by rw [Hs.out.2], by rw [Hs.out.1], HF.out _, Hb.out _, HG.out _⟩
            case measure => simp [intOf]; omega
          · have hTd : decide (T < q j) = false := by simpa using hT2
            have Hs := hide (hst.2 (fun h => hT2 h.2.2))
            clear hst hp
            go_wp2_with fail
            go_quiet (fail)
            go_wp2
            go_roundw
            case rel => exact ⟨j + 1, by omega, by go_num, by rw [Hs.out.2], by rw [Hs.out.1], HF.out _, Hb.out _, HG.out _⟩
            case measure => simp [intOf]; omega
        · have hkd : decide (k ≤ q j) = false := by simpa using hk
          have Hs := hide (hst.2 (fun h => hk h.2.1))
          clear hst hp
          go_wp2_with fail
          go_quiet (fail)
          go_wp2
          go_roundw
          case rel => exact ⟨j + 1, by omega, by go_num, by rw [Hs.out.2], by rw [Hs.out.1], HF.out _, Hb.out _, HG.out _⟩
          case measure => simp [intOf]; omega
    · have hjn : j = n := by omega
      subst hjn
      clear HQ
      obtain ⟨n, rfl⟩ : ∃ n, n = j := ⟨_, rfl⟩
      have hcase := hcase0.out
      clear hcase0
      generalize topAt k q p n = T at *
      generalize nxE p n pick = E at *
      generalize dueT k q p (nxT p n pick) n = D at *
      rcases hcase with ⟨rfl, hFF, hidle⟩ | ⟨rfl, rfl, hpos⟩
      · have hlt0 : F < 0 := by omega
        clear hFF
        go_wp2_with fail
        go_loopw [12] (fun i wr => ∃ j : Nat, j ≤ n ∧ i = .int .i64 j ∧ FairAt wr fb gb cap k n (fun x => if x < j then fairQ q p F x else q x) ∧ w.grownBy wr (some gb) ∧ Bools wr a n p) (fun i _ => n - (intOf i).toNat)
        case atStart => exact ⟨0, Nat.zero_le _, rfl, hF, hG, hb⟩
        case round =>
          clear hF hG hb
          obtain ⟨j, hj, rfl, hF, hG, hb⟩ := hrel
          by_cases hlt : j < n
          · obtain ⟨b, off, rfl, hcx⟩ := hb j hlt
            have hcq : wr.cell? ⟨gb, j, none⟩ = some (.int .i64 (q j)) := by have := hF.cell j hlt; simpa using this
            have hfz := hF.free j
            have hc1 := hF.cells
            have hqj := hq j hlt
            have hGs : ∀ u, w.grownBy (wr.setCell ⟨gb, j, none⟩ u) (some gb) := fun u => setCell_grown hG j u
            have hBs : ∀ u, Bools (wr.setCell ⟨gb, j, none⟩ u) (some ⟨b, off, none⟩) n p := fun u => hb.grown (setCell_grown (World.grownBy_refl wr _) j u) hne
            have hFs : ∀ u, fairQ q p F j = u → FairAt (wr.setCell ⟨gb, j, none⟩ (.int .i64 u)) fb gb cap k n (fun x => if x < j + 1 then fairQ q p F x else q x) := fun u hu =>
              hF.set j u (by simp [hu]) (fun x hx => by by_cases e : x < j <;> simp [e, show (x < j + 1) = (x < j) by simp; omega])
            clear hb hne
            have hp := hidle.out j hlt
            · rw [hp] at hcx
              have hu : fairQ q p F j = 0 := by simp [fairQ, hp]
              have HF := hide (hFs 0 hu)
              clear hFs hu hp
              go_wp2
              go_roundw
              case rel => exact ⟨j + 1, by omega, by go_num, HF.out, hGs _, hBs _⟩
              case measure => simp [intOf]; omega
          · have hjn : j = n := by omega
            subst hjn
            have hFe : FairAt wr fb gb cap k j (fairQ q p F) := ⟨hF.ne, hF.f, by obtain ⟨cur, e1, e2, e3⟩ := hF.g; exact ⟨cur, e1, e2, fun x hx => by have := e3 x hx; simpa [hx] using this⟩⟩
            go_wp2
            go_ret2
            exact ⟨by simp, hFe, hG⟩
      · obtain ⟨F, rfl⟩ : ∃ F : Int, F = D := ⟨_, rfl⟩
        go_wp2_with fail
        go_loopw [12] (fun i wr => ∃ j : Nat, j ≤ n ∧ i = .int .i64 j ∧ FairAt wr fb gb cap k n (fun x => if x < j then fairQ q p F x else q x) ∧ w.grownBy wr (some gb) ∧ Bools wr a n p) (fun i _ => n - (intOf i).toNat)
        case atStart => exact ⟨0, Nat.zero_le _, rfl, hF, hG, hb⟩
        case round =>
          clear hF hG hb
          obtain ⟨j, hj, rfl, hF, hG, hb⟩ := hrel
          by_cases hlt : j < n
          · obtain ⟨b, off, rfl, hcx⟩ := hb j hlt
            have hcq : wr.cell? ⟨gb, j, none⟩ = some (.int .i64 (q j)) := by have := hF.cell j hlt; simpa using this
            have hfz := hF.free j
            have hc1 := hF.cells
            have hqj := hq j hlt
            have hGs : ∀ u, w.grownBy (wr.setCell ⟨gb, j, none⟩ u) (some gb) := fun u => setCell_grown hG j u
            have hBs : ∀ u, Bools (wr.setCell ⟨gb, j, none⟩ u) (some ⟨b, off, none⟩) n p := fun u => hb.grown (setCell_grown (World.grownBy_refl wr _) j u) hne
            have hFs : ∀ u, fairQ q p F j = u → FairAt (wr.setCell ⟨gb, j, none⟩ (.int .i64 u)) fb gb cap k n (fun x => if x < j + 1 then fairQ q p F x else q x) := fun u hu =>
              hF.set j u (by simp [hu]) (fun x hx => by by_cases e : x < j <;> simp [e, show (x < j + 1) = (x < j) by simp; omega])
            clear hb hne
            cases hp : p j with
            | true =>
              rw [hp] at hcx
              by_cases hjt : (j : Int) = F
              · have hb1 : ((j : Int) != F) = false := by simp [hjt]
                have hu : fairQ q p F j = 0 := by simp [fairQ, hjt]
                have HF := hide (hFs 0 hu)
                have HJ := hide hjt
                clear hFs hu hjt hp
                go_wp2
                go_roundw
                case rel => exact ⟨j + 1, by omega, by go_num, HF.out, hGs _, hBs _⟩
                case measure => simp [intOf]; omega
              · have hb1 : ((j : Int) != F) = true := by simp [hjt]
                have hu : fairQ q p F j = q j + 1 := by simp [fairQ, hjt, hp]
                have HF := hide (hFs _ hu)
                clear hFs hu hjt hp
                go_wp2
                go_roundw
                case rel => exact ⟨j + 1, by omega, by go_num, HF.out, hGs _, hBs _⟩
                case measure => simp [intOf]; omega
            | false =>
              rw [hp] at hcx
              have hu : fairQ q p F j = 0 := by simp [fairQ, hp]
              have HF := hide (hFs 0 hu)
              clear hFs hu hp
              go_wp2
              go_roundw
              case rel => exact ⟨j + 1, by omega, by go_num, HF.out, hGs _, hBs _⟩
              case measure => simp [intOf]; omega
          · have hjn : j = n := by omega
            subst hjn
            have hFe : FairAt wr fb gb cap k j (fairQ q p F) := ⟨hF.ne, hF.f, by obtain ⟨cur, e1, e2, e3⟩ := hF.g; exact ⟨cur, e1, e2, fun x hx => by have := e3 x hx; simpa [hx] using this⟩⟩
            have hlt0 : ¬ F < 0 := by omega
            go_wp2
            go_ret2
            exact ⟨by simp, hFe, hG⟩
end Go.Proofs.Ytcdphilgnlcahaa
