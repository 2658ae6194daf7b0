/- Walks of (*Fair).Next$1 and (*Fair).Next. -/
import Derived.Test.YtcdphilgnlcahaaDue
import Derived.Deep.QuietTactic
import Derived.BigQuiet
namespace Go.Proofs.Ytcdphilgnlcahaa
open Go.RowKit

/-- who is next by the pick, -1 if none can go on -/
def byPick (p : Nat → Bool) (n : Nat) (pick : Int) : Int := if (rdy p n).length = 0 then -1 else nxT p n pick
/-- who is next, -1 if none can go on -/
def fairN (k : Int) (q : Nat → Int) (p : Nat → Bool) (n : Nat) (pick : Int) : Int := if 0 ≤ dueAt k q p n then dueAt k q p n else byPick p n pick
/-- the counts then -/
def fairQ (q : Nat → Int) (p : Nat → Bool) (t : Int) (j : Nat) : Int := if p j = true ∧ (j : Int) ≠ t then q j + 1 else 0

theorem byPick_ok (B1 B2 : Nat) (a : Option Addr) (n c : Nat) (p : Nat → Bool) (pick : Int) (w : World) (h2 : n ≤ 100000) (h0 : 0 ≤ pick) (h3 : pick ≤ 9223372036854775807)
    (h4 : w.cell? ⟨B1, 0, none⟩ = some (.slice a n c)) (h5 : w.cell? ⟨B2, 0, none⟩ = some (.int .i64 pick)) (hb : Bools w a n p) :
    Calls Try.prog 25 #[.pointer (some ⟨B1, 0, none⟩), .pointer (some ⟨B2, 0, none⟩)] w fun e w' => e = .returned (.int .i64 (byPick p n pick)) ∧ Below w.heap.size w w' := by
  have hE : nxE p n pick = 250 ∧ (rdy p n).length = 0 ∨ nxE p n pick = 0 ∧ (rdy p n).length ≠ 0 := by
    unfold nxE; by_cases h : (rdy p n).length = 0 <;> simp [h, show ¬ pick < 0 by omega]
  go_enter Try.func25, Try.ntmps25
  rcases hE with ⟨hE, hr⟩ | ⟨hE, hr⟩
  · have HE := hide hE
    have HR := hide hr
    clear hE hr
    go_wp2_with fail
    refine (Next_any a n c p pick w h2 h3 hb).mono ?_
    rw [HE.out]
    rintro e w' ⟨rfl, hB⟩
    go_wp2
    go_ret
    exact ⟨by unfold byPick; rw [if_pos HR.out] <;> rfl, hB⟩
  · have HE := hide hE
    have HR := hide hr
    clear hE hr
    go_wp2_with fail
    refine (Next_any a n c p pick w h2 h3 hb).mono ?_
    rw [HE.out]
    rintro e w' ⟨rfl, hB⟩
    go_wp2
    go_ret
    exact ⟨by unfold byPick; rw [if_neg HR.out] <;> rfl, hB⟩

theorem Fnext_nil (a : Option Addr) (m c : Nat) (pick : Int) (w : World) :
    Calls Try.prog 16 #[.pointer none, .slice a m c, .int .i64 pick] w fun e w' => e = .returned (.tuple #[.int .i64 0, .int .i64 1]) ∧ Below w.heap.size w w' := by
  go_enter Try.func16, Try.ntmps16
  go_wp2
  go_ret2
  exact ⟨rfl, ((Below.refl _ _).alloc (Nat.le_refl _) _).alloc (by simp) _⟩

set_option maxHeartbeats 800000 in
theorem Fnext_bad (fb gb cap n : Nat) (k : Int) (q : Nat → Int) (a : Option Addr) (m c : Nat) (pick : Int) (w : World) (h1 : 1 ≤ n) (h2 : n ≤ 100000)
    (h : FairAt w fb gb cap k n q) (hbad : pick < 0 ∨ m ≠ n) :
    Calls Try.prog 16 #[.pointer (some ⟨fb, 0, none⟩), .slice a m c, .int .i64 pick] w fun e w' => e = .returned (.tuple #[.int .i64 0, .int .i64 2]) ∧ Below w.heap.size w w' := by
  have hc1 : ((w.alloc (.cells #[.slice a m c] 22)).alloc (.cells #[.int .i64 pick] 3)).cell? ⟨fb, 1, none⟩ = some (.slice (some ⟨gb, 0, none⟩) n cap) :=
    (((Below.refl _ _).alloc (Nat.le_refl _) _).alloc (by simp) _ |>.cell (B := w.heap.size) h.lt.1).trans h.cells
  have hn0 : ((n : Int) == 0) = false := by simp; omega
  by_cases hp : pick < 0
  · clear hbad
    go_enter Try.func16, Try.ntmps16
    go_wp2_with fail
    go_quiet (fail)
    go_wp2
    go_ret2
    exact ⟨rfl, belowDrewN (((Below.refl _ _).alloc (Nat.le_refl _) _).alloc (by simp) _) _⟩
  · have hmn : m ≠ n := by omega
    have hmn' : ((m : Int) != (n : Int)) = true := by simp; omega
    have hpf : decide (pick < 0) = false := by simpa using hp
    clear hbad
    go_enter Try.func16, Try.ntmps16
    go_wp2_with fail
    go_quiet (fail)
    go_wp2
    go_ret2
    exact ⟨rfl, belowDrewN (((Below.refl _ _).alloc (Nat.le_refl _) _).alloc (by simp) _) _⟩


theorem Bools.grown {w w' : World} {a : Option Addr} {n g : Nat} {p : Nat → Bool} (h : Bools w a n p) (hb : w.grownBy w' (some g)) (hne : ∀ b off, a = some ⟨b, off, none⟩ → b ≠ g) : Bools w' a n p := by
  intro j hj
  obtain ⟨b, off, rfl, hc⟩ := h j hj
  exact ⟨b, off, rfl, hb.cell hc (by intro e; simp at e; exact hne b off rfl e)⟩

theorem World.grownBy_refl (w : World) (r : Option Nat) : w.grownBy w r := ⟨rfl, rfl, rfl, Nat.le_refl _, fun _ _ _ => rfl⟩
theorem setCell_grown {a w : World} {g : Nat} (h : a.grownBy w (some g)) (i : Nat) (u : Value) : a.grownBy (w.setCell ⟨g, i, none⟩ u) (some g) :=
  ⟨h.os, h.tape, h.output, by simpa [World.setCell] using h.size, fun j hj hne => (Below.heap_setCell w _ u j (by intro e; apply hne; rw [e])).trans (h.block j hj hne)⟩

set_option maxHeartbeats 1600000 in
theorem Fnext_ok (fb gb cap n : Nat) (k : Int) (q : Nat → Int) (a : Option Addr) (c : Nat) (p : Nat → Bool) (pick : Int) (w : World) (h1 : 1 ≤ n) (h2 : n ≤ 100000)
    (h : FairAt w fb gb cap k n q) (hb : Bools w a n p) (hne : ∀ b off, a = some ⟨b, off, none⟩ → b ≠ gb) (h0 : 0 ≤ pick) (h3 : pick ≤ 9223372036854775807)
    (hq : ∀ j, j < n → 0 ≤ q j ∧ q j ≤ 1000000) :
    Calls Try.prog 16 #[.pointer (some ⟨fb, 0, none⟩), .slice a n c, .int .i64 pick] w fun e w' =>
      e = .returned (.tuple #[.int .i64 (if fairN k q p n pick < 0 then 0 else fairN k q p n pick), .int .i64 (if fairN k q p n pick < 0 then 250 else 0)]) ∧
      FairAt w' fb gb cap k n (fairQ q p (fairN k q p n pick)) ∧ w.grownBy w' (some gb) := by
  obtain ⟨t, ht, hd⟩ : ∃ t : Int, fairN k q p n pick = t ∧ ((0 ≤ dueAt k q p n ∧ dueAt k q p n = t) ∨ (dueAt k q p n < 0 ∧ byPick p n pick = t)) := by
    refine ⟨_, rfl, ?_⟩
    unfold fairN
    by_cases h : 0 ≤ dueAt k q p n
    · rw [if_pos h]; exact .inl ⟨h, rfl⟩
    · rw [if_neg h]; exact .inr ⟨by omega, rfl⟩
  rw [ht]
  clear ht
  have hB0 : Below w.heap.size w ((w.alloc (.cells #[.slice a n c] 22)).alloc (.cells #[.int .i64 pick] 3)) := ((Below.refl _ _).alloc (Nat.le_refl _) _).alloc (by simp) _
  have hF0 := h.below hB0
  have hb0 := hb.below hB0
  have hx1 : ((w.alloc (.cells #[.slice a n c] 22)).alloc (.cells #[.int .i64 pick] 3)).cell? ⟨w.heap.size, 0, none⟩ = some (.slice a n c) := by
    rw [World.cell?_alloc_past _ _ _ (by simp), World.cell?_alloc_at _ _ _ _ rfl]; rfl
  have hx2 : ((w.alloc (.cells #[.slice a n c] 22)).alloc (.cells #[.int .i64 pick] 3)).cell? ⟨w.heap.size + 1, 0, none⟩ = some (.int .i64 pick) := by
    rw [World.cell?_alloc_at _ _ _ _ (by simp)]; rfl
  have hc1 := hF0.cells
  have hn0 : ((n : Int) == 0) = false := by simp; omega
  have hpf : decide (pick < 0) = false := by simp; omega
  have hmf : ∀ (fn : Fn) (first cap : Array Value) (w : World), (Instr.makeFunc fn first cap).run Try.prog w = .ok (.func fn first cap) w := fun _ _ _ _ => rfl
  have hnn : ((n : Int) != (n : Int)) = false := by simp
  go_enter Try.func16, Try.ntmps16
  go_wp2_with fail
  go_quiet (fail)
  go_wp2_with fail
  refine (byPick_ok w.heap.size (w.heap.size + 1) a n c p pick _ h2 h0 h3 ?_ ?_ ?_).mono ?_
  · exact hx1
  · exact hx2
  · exact hb0
  rintro e w1 ⟨rfl, hB1⟩
  have hB2 : Below w.heap.size w w1 := (belowDrewN hB0 nq).trans (hB1.mono (by simpa using hB0.size))
  have hF1 : FairAt w1 fb gb cap k n q := h.below hB2
  have hb1 : Bools w1 a n p := hb.below hB2
  have hx : w1.cell? ⟨w.heap.size, 0, none⟩ = some (.slice a n c) := (hB1.cell (p := ⟨w.heap.size, 0, none⟩) (World.block_lt_of_cell? _ _ hx1)).trans hx1
  have hG1 : w.grownBy w1 (some gb) := ⟨hB2.os, hB2.tape, hB2.output, hB2.size, fun i hi _ => hB2.block i hi⟩
  have hc1' := hF1.cells
  have hgw := h.lt.2
  clear hx1 hx2 hc1 hF0 hb0 hB0 hB1 hB2 hb
  go_wp2_with fail
  refine (due_ok fb gb cap n k q a c p w1 h2 hF1 hb1).mono ?_
  rintro e w2 ⟨rfl, rfl⟩
  rcases hd with ⟨hd0, hd1⟩ | ⟨hd0, hd1⟩
  · rw [hd1] at hd0 ⊢
    rw [show decide (0 ≤ t) = true from by simpa using hd0]
    have HD := hide hd1
    clear hd1
    go_wp2_with fail
    go_loopw [53] (fun i wr => ∃ j : Nat, j ≤ n ∧ i = .int .i64 j ∧ FairAt wr fb gb cap k n (fun x => if x < j then fairQ q p t x else q x) ∧ w.grownBy wr (some gb) ∧ Bools wr a n p ∧ wr.cell? ⟨w.heap.size, 0, none⟩ = some (.slice a n c)) (fun i _ => n - (intOf i).toNat)
    case atStart => exact ⟨0, Nat.zero_le _, rfl, hF1, hG1, hb1, hx⟩
    case round =>
      clear hx hb1 hG1 hF1 hc1'
      obtain ⟨j, hj, rfl, hF, hG, hb, hx⟩ := hrel
      by_cases hlt : j < n
      · obtain ⟨b, off, rfl, hcx⟩ := hb j hlt
        have hcq : wr.cell? ⟨gb, j, none⟩ = some (.int .i64 (q j)) := by have := hF.cell j hlt; simpa using this
        have hfz := hF.free j
        have hc1 := hF.cells
        have hqj := hq j hlt
        have hgb : w.heap.size ≠ gb := by omega
        have hxs : ∀ u, (wr.setCell ⟨gb, j, none⟩ u).cell? ⟨w.heap.size, 0, none⟩ = some (.slice (some ⟨b, off, none⟩) n c) := fun u => (World.cell?_setCell_other _ _ _ _ (by intro e; injection e with e; omega)).trans hx
        have hGs : ∀ u, w.grownBy (wr.setCell ⟨gb, j, none⟩ u) (some gb) := fun u => setCell_grown hG j u
        have hBs : ∀ u, Bools (wr.setCell ⟨gb, j, none⟩ u) (some ⟨b, off, none⟩) n p := fun u => hb.grown (setCell_grown (World.grownBy_refl wr _) j u) hne
        have hFs : ∀ u, fairQ q p t j = u → FairAt (wr.setCell ⟨gb, j, none⟩ (.int .i64 u)) fb gb cap k n (fun x => if x < j + 1 then fairQ q p t x else q x) := fun u hu =>
          hF.set j u (by simp [hu]) (fun x hx => by by_cases e : x < j <;> simp [e, show (x < j + 1) = (x < j) by simp; omega])
        have HXS := hide hxs
        clear hxs hb hne
        cases hp : p j with
        | true =>
          rw [hp] at hcx
          by_cases hjt : (j : Int) = t
          · have hb1 : ((j : Int) != t) = false := by simp [hjt]
            have hu : fairQ q p t j = 0 := by simp [fairQ, hjt]
            have HF := hide (hFs 0 hu)
            have HJ := hide hjt
            clear hFs hu hjt hp
            go_wp2
            go_roundw
            case rel => exact ⟨j + 1, by omega, by go_num, HF.out, hGs _, hBs _, HXS.out _⟩
            case measure => simp [intOf]; omega
          · have hb1 : ((j : Int) != t) = true := by simp [hjt]
            have hu : fairQ q p t j = q j + 1 := by simp [fairQ, hjt, hp]
            have HF := hide (hFs _ hu)
            clear hFs hu hjt hp
            go_wp2
            go_roundw
            case rel => exact ⟨j + 1, by omega, by go_num, HF.out, hGs _, hBs _, HXS.out _⟩
            case measure => simp [intOf]; omega
        | false =>
          rw [hp] at hcx
          have hu : fairQ q p t j = 0 := by simp [fairQ, hp]
          have HF := hide (hFs 0 hu)
          clear hFs hu hp
          go_wp2
          go_roundw
          case rel => exact ⟨j + 1, by omega, by go_num, HF.out, hGs _, hBs _, HXS.out _⟩
          case measure => simp [intOf]; omega
      · have hjn : j = n := by omega
        subst hjn
        have hFe : FairAt wr fb gb cap k j (fairQ q p t) := ⟨hF.ne, hF.f, by obtain ⟨cur, e1, e2, e3⟩ := hF.g; exact ⟨cur, e1, e2, fun x hx => by have := e3 x hx; simpa [hx] using this⟩⟩
        have ht : ¬ t < 0 := by omega
        go_wp2
        go_ret2
        exact ⟨by simp, hFe, hG⟩
  · rw [hd1, show decide (0 ≤ dueAt k q p n) = false from by simpa using hd0]
    have HD := hide hd1
    clear hd1
    go_wp2_with fail
    go_loopw [53] (fun i wr => ∃ j : Nat, j ≤ n ∧ i = .int .i64 j ∧ FairAt wr fb gb cap k n (fun x => if x < j then fairQ q p t x else q x) ∧ w.grownBy wr (some gb) ∧ Bools wr a n p ∧ wr.cell? ⟨w.heap.size, 0, none⟩ = some (.slice a n c)) (fun i _ => n - (intOf i).toNat)
    case atStart => exact ⟨0, Nat.zero_le _, rfl, hF1, hG1, hb1, hx⟩
    case round =>
      clear hx hb1 hG1 hF1 hc1'
      obtain ⟨j, hj, rfl, hF, hG, hb, hx⟩ := hrel
      by_cases hlt : j < n
      · obtain ⟨b, off, rfl, hcx⟩ := hb j hlt
        have hcq : wr.cell? ⟨gb, j, none⟩ = some (.int .i64 (q j)) := by have := hF.cell j hlt; simpa using this
        have hfz := hF.free j
        have hc1 := hF.cells
        have hqj := hq j hlt
        have hgb : w.heap.size ≠ gb := by omega
        have hxs : ∀ u, (wr.setCell ⟨gb, j, none⟩ u).cell? ⟨w.heap.size, 0, none⟩ = some (.slice (some ⟨b, off, none⟩) n c) := fun u => (World.cell?_setCell_other _ _ _ _ (by intro e; injection e with e; omega)).trans hx
        have hGs : ∀ u, w.grownBy (wr.setCell ⟨gb, j, none⟩ u) (some gb) := fun u => setCell_grown hG j u
        have hBs : ∀ u, Bools (wr.setCell ⟨gb, j, none⟩ u) (some ⟨b, off, none⟩) n p := fun u => hb.grown (setCell_grown (World.grownBy_refl wr _) j u) hne
        have hFs : ∀ u, fairQ q p t j = u → FairAt (wr.setCell ⟨gb, j, none⟩ (.int .i64 u)) fb gb cap k n (fun x => if x < j + 1 then fairQ q p t x else q x) := fun u hu =>
          hF.set j u (by simp [hu]) (fun x hx => by by_cases e : x < j <;> simp [e, show (x < j + 1) = (x < j) by simp; omega])
        have HXS := hide hxs
        clear hxs hb hne
        cases hp : p j with
        | true =>
          rw [hp] at hcx
          by_cases hjt : (j : Int) = t
          · have hb1 : ((j : Int) != t) = false := by simp [hjt]
            have hu : fairQ q p t j = 0 := by simp [fairQ, hjt]
            have HF := hide (hFs 0 hu)
            have HJ := hide hjt
            clear hFs hu hjt hp
            go_wp2
            go_roundw
            case rel => exact ⟨j + 1, by omega, by go_num, HF.out, hGs _, hBs _, HXS.out _⟩
            case measure => simp [intOf]; omega
          · have hb1 : ((j : Int) != t) = true := by simp [hjt]
            have hu : fairQ q p t j = q j + 1 := by simp [fairQ, hjt, hp]
            have HF := hide (hFs _ hu)
            clear hFs hu hjt hp
            go_wp2
            go_roundw
            case rel => exact ⟨j + 1, by omega, by go_num, HF.out, hGs _, hBs _, HXS.out _⟩
            case measure => simp [intOf]; omega
        | false =>
          rw [hp] at hcx
          have hu : fairQ q p t j = 0 := by simp [fairQ, hp]
          have HF := hide (hFs 0 hu)
          clear hFs hu hp
          go_wp2
          go_roundw
          case rel => exact ⟨j + 1, by omega, by go_num, HF.out, hGs _, hBs _, HXS.out _⟩
          case measure => simp [intOf]; omega
      · have hjn : j = n := by omega
        subst hjn
        have hFe : FairAt wr fb gb cap k j (fairQ q p t) := ⟨hF.ne, hF.f, by obtain ⟨cur, e1, e2, e3⟩ := hF.g; exact ⟨cur, e1, e2, fun x hx => by have := e3 x hx; simpa [hx] using this⟩⟩
        by_cases ht : t < 0
        · go_wp2
          go_ret2
          exact ⟨by simp, hFe, hG⟩
        · go_wp2
          go_ret2
          exact ⟨by simp, hFe, hG⟩
end Go.Proofs.Ytcdphilgnlcahaa
