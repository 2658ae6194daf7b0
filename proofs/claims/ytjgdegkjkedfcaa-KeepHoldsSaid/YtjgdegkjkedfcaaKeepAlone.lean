/- The walk of keep.alone: why each piece may go, alone. (Written by wip/genalone.py.) -/
import Derived.Test.YtjgdegkjkedfcaaKeepWalk
import Derived.Deep.OwnRows
import Derived.Laws.CopyOwn
namespace Go.Proofs.Ytjgdegkjkedfcaa
open Go.RowKit

def bytesS : List P3 → Int
  | [] => 0
  | p :: r => p.y + bytesS r
/-- why a piece may go, alone: 0 it stays, 1 bytes, 2 age, 3 pieces, 4 it is the last, 5 not all of it is below -/
def rsn (r : R4) (now : Int) (p : P3) : List P3 → Int
  | [] => 4
  | q :: rest => if r.w < q.b then 5 else if 0 < r.y ∧ r.y ≤ bytesS (q :: rest) then 1 else if 0 < r.a ∧ r.a < now - p.t then 2 else if 0 < r.p ∧ r.p ≤ ((q :: rest).length : Int) then 3 else 0
def alsL (r : R4) (now : Int) : List P3 → List Int
  | [] => []
  | p :: rest => rsn r now p rest :: alsL r now rest
@[simp] theorem alsL_length (r : R4) (now : Int) (l : List P3) : (alsL r now l).length = l.length := by
  induction l with
  | nil => rfl
  | cons p l ih => simp [alsL, ih]
theorem alsL_getD (r : R4) (now : Int) (l : List P3) (i : Nat) (h : i < l.length) : (alsL r now l).getD i 0 = rsn r now (l.getD i default) (l.drop (i + 1)) := by
  induction l generalizing i with
  | nil => simp at h
  | cons p l ih => cases i with
    | zero => simp [alsL]
    | succ i => simpa [alsL] using ih i (by simpa using h)
theorem bytesS_drop (l : List P3) (k : Nat) (h : k < l.length) : bytesS (l.drop k) = (l.getD k default).y + bytesS (l.drop (k + 1)) := by rw [drop_cons l k h]; rfl
theorem rsn_more (r : R4) (now : Int) (p : P3) (l : List P3) (j : Nat) (h : j + 1 < l.length) :
    rsn r now p (l.drop (j + 1)) = if r.w < (l.getD (j + 1) default).b then 5 else if 0 < r.y ∧ r.y ≤ bytesS (l.drop (j + 1)) then 1 else if 0 < r.a ∧ r.a < now - p.t then 2 else if 0 < r.p ∧ r.p ≤ (l.length : Int) - 1 - (j : Int) then 3 else 0 := by
  have e : ((l.drop (j + 1)).length : Int) = (l.length : Int) - 1 - (j : Int) := by rw [List.length_drop]; omega
  rw [← e]
  rw [drop_cons l (j + 1) h]
  rfl
/-- pieces within their bounds -/
def PcsB (l : List P3) : Prop := ∀ p ∈ l, (0 ≤ p.b ∧ p.b ≤ 9007199254740992) ∧ (0 ≤ p.y ∧ p.y ≤ 16777216) ∧ (0 ≤ p.t ∧ p.t ≤ 9007199254740992)
theorem inB_iff {x m : Int} : inB x m = true ↔ 0 ≤ x ∧ x ≤ m := by simp [inB]
theorem ordFrom_b {last : Int} {l : List P3} (h : ordFrom last l = true) : PcsB l := by
  induction l generalizing last with
  | nil => intro p hp; cases hp
  | cons q l ih =>
    simp only [ordFrom, okP, Bool.and_eq_true, inB_iff] at h
    intro p hp
    rcases List.mem_cons.1 hp with rfl | hp
    · exact ⟨h.1.2.1, h.1.2.2.1, h.1.2.2.2⟩
    · exact ih h.2 p hp
theorem bytesS_b {l : List P3} (h : PcsB l) : 0 ≤ bytesS l ∧ bytesS l ≤ 16777216 * (l.length : Int) := by
  induction l with
  | nil => simp [bytesS]
  | cons p l ih =>
    have h1 := ih (fun q hq => h q (List.mem_cons_of_mem _ hq))
    have h2 := (h p List.mem_cons_self).2.1
    simp only [bytesS, List.length_cons]
    push_cast
    omega

/-- a row of whole numbers, written in place -/
def WInts (w : World) (base g cap : Nat) (l : List Int) : Prop := w.ownsRow base 37 1 (.slice (some ⟨g, 0, none⟩) l.length cap) l.length (l.map (Value.int .i64))
theorem WInts.lies {w : World} {base g cap : Nat} {l : List Int} (h : WInts w base g cap l) : base ≤ g ∧ g < w.heap.size ∧ l.length ≤ cap := by
  rcases h.2 with ⟨h', _⟩ | ⟨g', cap', cur, h', hb, hg, hnc, hcm, hcs, htake⟩
  · simp at h'
  · simp only [Value.slice.injEq, Option.some.injEq, Addr.mk.injEq, and_true, true_and] at h'
    obtain ⟨rfl, rfl⟩ := h'
    exact ⟨hb, (Array.getElem?_eq_some_iff.1 hg).1, hnc⟩
theorem WInts.set {w : World} {base g cap : Nat} {l : List Int} (h : WInts w base g cap l) (q : Nat) (x : Int) : WInts (w.setCell ⟨g, q, none⟩ (.int .i64 x)) base g cap (l.set q x) := by
  have h' := (World.ownsRow.stored h q (.int .i64 x)).1
  unfold WInts
  rw [List.map_set, List.length_set]
  exact h'
theorem WInts.free {w : World} {base g cap : Nat} {l : List Int} (h : WInts w base g cap l) (j : Nat) : w.frozen? ⟨g, j, none⟩ = false := World.ownsRow.frozenAt h j
theorem WInts.cell {w : World} {base g cap : Nat} {l : List Int} (h : WInts w base g cap l) (j : Nat) (hj : j < l.length) : w.cell? ⟨g, j, none⟩ = some (.int .i64 (l.getD j 0)) := by
  have := World.ownsRow.cells h (g := g) rfl j (.int .i64 (l.getD j 0)) (by simp [List.getD_eq_getElem?_getD, hj])
  rwa [addr_add0] at this
theorem Try.info37 : (Try.prog.info? 37).map (fun i => (i.zero, i.size, i.bytes)) = some (some (.int .i64 0), 1, 8) := by kernel_rfl
theorem made_wi (w : World) (n : Nat) (hn : n ≤ maxLen) : WInts (w.alloc (.cells (madeCells #[.int .i64 0] n) 37)) w.heap.size w.heap.size n (List.replicate n 0) := by
  unfold WInts
  rw [List.length_replicate]
  refine ⟨by simp, .inr ⟨w.heap.size, n, _, rfl, Nat.le_refl _, heap_alloc_new w _, Nat.le_refl _, hn, by rw [size_madeCells, Nat.mul_one], ?_⟩⟩
  rw [toList_madeCells_one, List.map_replicate, Nat.mul_one, List.take_of_length_le (by simp)]

theorem WInts.base {w : World} {base base' g cap : Nat} {l : List Int} (h : WInts w base g cap l) (hb : base' ≤ base) : WInts w base' g cap l := by
  refine ⟨h.1, ?_⟩
  rcases h.2 with h' | ⟨g', cap', cur, h1, h2, h3⟩
  · exact .inl h'
  · exact .inr ⟨g', cap', cur, h1, Nat.le_trans hb h2, h3⟩
/-- all that alone's loop looks at -/
structure AF (w w' : World) (gb : Nat) (r : R4) (a : Option Addr) (l : List P3) (base g cap : Nat) (D : List Int) : Prop where
  box : BoxR w' gb r
  row : WInts w' base g cap D
  bel : Below w.heap.size w w'
  pcs : PcsAt w' a l
theorem AF.drewN {w w' : World} {gb : Nat} {r : R4} {a : Option Addr} {l : List P3} {base g cap : Nat} {D : List Int} (h : AF w w' gb r a l base g cap D) (k : Nat) : AF w (w'.drewN k) gb r a l base g cap D :=
  ⟨h.box, h.row, belowDrewN h.bel k, h.pcs⟩
theorem AF.store {w w' : World} {gb : Nat} {r : R4} {a : Option Addr} {l : List P3} {base g cap : Nat} {D : List Int} (h : AF w w' gb r a l base g cap D) (hp : PcsAt w a l) (hne : gb ≠ g) (hb : w.heap.size ≤ base) (q : Nat) (x : Int) : AF w (w'.setCell ⟨g, q, none⟩ (.int .i64 x)) gb r a l base g cap (D.set q x) := by
  have hB := h.bel.setCell (p := ⟨g, q, none⟩) (Nat.le_trans hb h.row.lies.1) (.int .i64 x)
  exact ⟨(Below.heap_setCell w' ⟨g, q, none⟩ _ gb hne).trans h.box, h.row.set q x, hB, hp.below hB (Nat.le_refl _)⟩

/-- the row's state: from m on it tells the reasons, below m noughts -/
def RowSt (als D : List Int) (m : Nat) : Prop := D.length = als.length ∧ (∀ q, m ≤ q → D.getD q 0 = als.getD q 0) ∧ ∀ q, q < m → D.getD q 0 = 0
theorem RowSt.stay {als D : List Int} {j : Nat} (h : RowSt als D (j + 1)) (hz : als.getD j 0 = 0) : RowSt als D j :=
  ⟨h.1, fun q hq => by
    by_cases e : q = j
    · subst e; rw [hz]; exact h.2.2 q (by omega)
    · exact h.2.1 q (by omega), fun q hq => h.2.2 q (by omega)⟩
theorem RowSt.put {als D : List Int} {j : Nat} (h : RowSt als D (j + 1)) (hj : j < als.length) : RowSt als (D.set j (als.getD j 0)) j :=
  ⟨by rw [List.length_set]; exact h.1, fun q hq => by
    by_cases e : q = j
    · subst e; simp [List.getD_eq_getElem?_getD, h.1, hj]
    · have := h.2.1 q (by omega)
      simp only [List.getD_eq_getElem?_getD] at this ⊢
      rw [List.getElem?_set_ne (by omega), this], fun q hq => by
    have := h.2.2 q (by omega)
    simp only [List.getD_eq_getElem?_getD] at this ⊢
    rw [List.getElem?_set_ne (by omega), this]⟩
theorem RowSt.all {als D : List Int} (h : RowSt als D 0) : D = als := by
  apply List.ext_getElem h.1
  intro j h1 h2
  have := h.2.1 j (by omega)
  simpa [List.getD_eq_getElem?_getD, h1, h2] using this
theorem RowSt.start (als : List Int) : RowSt als (List.replicate als.length 0) als.length :=
  ⟨by simp, fun q hq => by
    simp only [List.getD_eq_getElem?_getD]
    rw [List.getElem?_eq_none (by simpa using hq), List.getElem?_eq_none (by simpa using hq)], fun q hq => by simp [List.getD_eq_getElem?_getD, hq]⟩

set_option maxHeartbeats 6400000 in
set_option maxRecDepth 100000 in
theorem alone_ok (r : R4) (now : Int) (a : Option Addr) (c : Nat) (l : List P3) (w : World) (hn : l.length ≤ 4096) (hnow : inB now 9007199254740992 = true) (ho : ordFrom (-1) l = true) (hp : PcsAt w a l) :
    Calls Try.prog 24 #[.agg (ruleV r), .int .i64 now, .slice a l.length c] w fun e w' => ∃ g cap, e = .returned (.slice (some ⟨g, 0, none⟩) l.length cap) ∧ WInts w' w.heap.size g cap (alsL r now l) ∧ Below w.heap.size w w' := by
  have hpb := ordFrom_b ho
  have hbd := fun k => bytesS_b (l := l.drop k) (fun p hp => hpb p (List.mem_of_mem_drop hp))
  have hstep : ∀ k, k < l.length → bytesS (l.drop k) = (l.getD k default).y + bytesS (l.drop (k + 1)) := bytesS_drop l
  have hals := alsL_getD r now l
  have hlen := alsL_length r now l
  have hlast : ∀ k, k + 1 = l.length → l.drop (k + 1) = [] := fun k hk => by rw [hk]; exact List.drop_length
  have hmore := fun (k : Nat) (p : P3) (hk : k + 1 < l.length) => rsn_more r now p l k hk
  have hmem : ∀ k, k < l.length → l.getD k default ∈ l := fun k hk => by simp [List.getD_eq_getElem?_getD, hk]
  have hdrop0 : bytesS (l.drop l.length) = 0 := by rw [List.drop_length]; rfl
  have hdlen : ∀ k, (l.drop k).length ≤ 4096 := fun k => by rw [List.length_drop]; omega
  have HST := hide hstep
  have HALS := hide hals
  have HLEN := hide hlen
  have HLAST := hide hlast
  have HMORE := hide hmore
  have HBD := hide hbd
  have HPB := hide hpb
  have HMEM := hide hmem
  have HD0 := hide hdrop0
  have HDLEN := hide hdlen
  have HP := hide hp
  have HSTART := hide (RowSt.start (alsL r now l))
  have hnw := inB_iff.1 hnow
  clear hpb hbd hstep hals hlen hlast hmore hp ho hnow hmem hdrop0 hdlen
  rw [HLEN.out] at HSTART
  generalize hA : alsL r now l = als at *
  clear hA
  generalize hnn : l.length = n at *
  have HNN := hide hnn
  clear hnn
  have HBX := hide (BoxR.new w r)
  obtain ⟨ry, ra, rp, rw'⟩ := r
  have hmk := run_make_row' (P := Try.prog) 54 37 (.int .i64 0) 8 Try.underlying54 Try.info37 rfl .i64 .i64 n (by omega) (by omega)
  have HW0 := hide (made_wi (w.alloc (.cells (ruleV ⟨ry, ra, rp, rw'⟩) 29)) n (by unfold maxLen; omega))
  have HB0 := hide (((Below.refl w.heap.size w).alloc (Nat.le_refl _) (.cells (ruleV ⟨ry, ra, rp, rw'⟩) 29)).alloc (by simp) (.cells (madeCells #[.int .i64 0] n) 37))
  have hs1 : (w.alloc (.cells (ruleV ⟨ry, ra, rp, rw'⟩) 29)).heap.size = w.heap.size + 1 := by simp
  rw [hs1] at HW0
  have HBX1 := hide (HBX.out.same (w' := (w.alloc (.cells (ruleV ⟨ry, ra, rp, rw'⟩) 29)).alloc (.cells (madeCells #[.int .i64 0] n) 37)) ((Below.refl _ _).alloc (Nat.le_refl _) _))
  have HF0 := hide (AF.mk HBX1.out HW0.out HB0.out (HP.out.below HB0.out (Nat.le_refl _)))
  clear HBX HBX1 hs1 HW0
  unfold ruleV at *
  have hbound : ∀ k, 0 ≤ bytesS (l.drop k) ∧ bytesS (l.drop k) ≤ 68719476736 := fun k => by
    have h1 := HBD.out k
    have h2 := HDLEN.out k
    omega
  have HBND := hide hbound
  clear hbound HBD
  go_enter Try.func24, Try.ntmps24
  go_wp2_with fail
  clear hmk
  go_loopw [8, 9, 10] (fun b i nn wr => ∃ (m : Nat) (I B : Int) (D : List Int), m ≤ n ∧ i = .int .i64 I ∧ b = .int .i64 B ∧ Hid (I = (m : Int) - 1) ∧ Hid (B = bytesS (l.drop m)) ∧ Hid (RowSt als D m) ∧ Hid (AF w wr w.heap.size ⟨ry, ra, rp, rw'⟩ a l (w.heap.size + 1) (w.heap.size + 1) n D)) (fun _ i _ _ => (intOf i + 1).toNat)
  case atStart => exact ⟨n, (n : Int) - 1, 0, List.replicate n 0, by omega, rfl, rfl, hide rfl, hide (by have := HD0.out; exact this.symm), HSTART, HF0⟩
  case round =>
    obtain ⟨m, I, B, D, hm, rfl, rfl, HI, HB, HR, HF⟩ := hrel
    cases m with
    | zero =>
      obtain rfl : I = -1 := by have := HI.out; omega
      have hD := HR.out.all
      go_wp2
      go_ret
      have hlD : D.length = n := HR.out.1.trans HLEN.out
      have hrow := HF.out.row
      rw [hD] at hrow
      exact ⟨_, _, rfl, hrow.base (by omega), HF.out.bel⟩
    | succ j =>
      obtain rfl : I = (j : Int) := by have := HI.out; omega
      clear HI
      have hj : j < n := by omega
      have hbb := HBND.out (j + 1)
      rw [← HB.out] at hbb
      have hyb := (HPB.out _ (HMEM.out j hj)).2
      have hB2 := HST.out j hj
      rw [← HB.out] at hB2
      have hrs := HALS.out j hj
      have hjal : j < als.length := by rw [HLEN.out]; exact hj
      have hDl : D.length = n := HR.out.1.trans HLEN.out
      obtain ⟨b0, b1, b2, b3⟩ := HF.out.box.cells
      obtain ⟨blk, off, rfl, p0, p1, p2⟩ := HF.out.pcs j (by rw [HNN.out]; exact hj)
      have rc := HF.out.row.cell j (by rw [hDl]; exact hj)
      have rf := HF.out.row.free j
      generalize D.getD j 0 = dj at rc
      have hwb : IntKind.i64.wrap (B + (l.getD j default).y) = B + (l.getD j default).y := by rw [IntKind.wrap_i64]; omega
      have hwt : IntKind.i64.wrap (now - (l.getD j default).t) = now - (l.getD j default).t := by rw [IntKind.wrap_i64]; omega
      have i1 : (j : Int) < (n : Int) := by omega

      by_cases hl : j + 1 = n
      · have hv : als.getD j 0 = 4 := by rw [hrs, HLAST.out j hl]; rfl
        have hz : ((n : Int) - 1 - (j : Int) == 0) = true := by rw [beq_iff_eq]; omega
        have HV := hide hv
        have HJA := hide hjal
        have HFq := HF
        have HBY := hide hB2
        clear hv hrs hwt
        have HDL2 := hide hDl
        clear hB2 hjal hDl
        generalize l.getD j default = pc at *
        obtain ⟨b, y, t⟩ := pc
        dsimp only at p0 p1 p2 hwb hyb HBY
        go_wp2
        go_roundw
        case rel => exact ⟨j, (j : Int) - 1, B + y, D.set j 4, by omega, by go_num, by go_num, hide rfl, hide (by rw [HBY.out, Int.add_comm]), hide (by have := HR.out.put HJA.out; rwa [HV.out] at this), hide (HFq.out.store HP.out (by omega) (by omega) j 4)⟩
        case measure => simp [intOf] <;> omega
      · have hj1 : j + 1 < n := by omega
        have hz : ((n : Int) - 1 - (j : Int) == 0) = false := by rw [beq_eq_false_iff_ne]; omega
        rw [HMORE.out j _ hj1, ← HB.out] at hrs
        obtain ⟨_, _, e, q0, _, _⟩ := HF.out.pcs (j + 1) (by rw [HNN.out]; exact hj1)
        injection e with e
        injection e with e1 e2
        subst e1 e2
        have i2 : (j : Int) + 1 < (n : Int) := by omega
        have HPC : Hid (l.getD j default = l.getD j default) := hide rfl
        generalize hpc : l.getD j default = pc at hrs hB2 hwb hwt hyb p0 p1 p2
        replace HPC := hide hpc.symm
        generalize (l.getD (j + 1) default).b = qb at *
        obtain ⟨b, y, t⟩ := pc
        dsimp only at hrs hB2 hwb hwt hyb p0 p1 p2
        have HBY := hide hB2
        have HJA := hide hjal
        have HDL2 := hide hDl
        have HRS := hide hrs
        clear hrs hB2 hpc hjal hDl hl
        by_cases hqb : rw' < qb
        · have dq : decide (rw' < qb) = true := decide_eq_true hqb
          have HV := hide (show als.getD j 0 = 5 by rw [HRS.out, if_pos hqb])
          clear hqb
          go_wp2_with fail
          go_quiet (fail)
          have HFq := hide (HF.out.drewN nq)
          clear b0 b1 b2 b3 p0 p1 p2 rc rf q0
          generalize wr.drewN nq = wq at *
          obtain ⟨b0, b1, b2, b3⟩ := HFq.out.box.cells
          obtain ⟨_, _, e, p0, p1, p2⟩ := HFq.out.pcs j (by rw [HNN.out]; exact hj)
          injection e with e
          injection e with e1 e2
          subst e1 e2
          have rc := HFq.out.row.cell j (by rw [HDL2.out]; exact hj)
          have rf := HFq.out.row.free j
          rw [← HPC.out] at p0 p1 p2
          dsimp only at p0 p1 p2
          generalize D.getD j 0 = dj at rc
          go_wp2
          go_roundw
          case rel => exact ⟨j, (j : Int) - 1, B + y, D.set j 5, by omega, by go_num, by go_num, hide rfl, hide (by rw [HBY.out, Int.add_comm]), hide (by have := HR.out.put HJA.out; rwa [HV.out] at this), hide (HFq.out.store HP.out (by omega) (by omega) j 5)⟩
          case measure => simp [intOf] <;> omega
        · have dq : decide (rw' < qb) = false := decide_eq_false hqb
          have hrs := HRS.out
          rw [if_neg hqb] at hrs
          clear hqb HRS
          by_cases c1 : 0 < ry ∧ ry ≤ B
          · have d1 : decide (0 < ry) = true := decide_eq_true c1.1
            have d2 : decide (ry ≤ B) = true := decide_eq_true c1.2
            have HV := hide (show als.getD j 0 = 1 by rw [hrs, if_pos c1])
            clear c1 hrs
            go_wp2_with fail
            go_quiet (fail)
            have HFq := hide (HF.out.drewN nq)
            clear b0 b1 b2 b3 p0 p1 p2 rc rf q0
            generalize wr.drewN nq = wq at *
            obtain ⟨b0, b1, b2, b3⟩ := HFq.out.box.cells
            obtain ⟨_, _, e, p0, p1, p2⟩ := HFq.out.pcs j (by rw [HNN.out]; exact hj)
            injection e with e
            injection e with e1 e2
            subst e1 e2
            have rc := HFq.out.row.cell j (by rw [HDL2.out]; exact hj)
            have rf := HFq.out.row.free j
            rw [← HPC.out] at p0 p1 p2
            dsimp only at p0 p1 p2
            generalize D.getD j 0 = dj at rc
            go_wp2
            go_roundw
            case rel => exact ⟨j, (j : Int) - 1, B + y, D.set j 1, by omega, by go_num, by go_num, hide rfl, hide (by rw [HBY.out, Int.add_comm]), hide (by have := HR.out.put HJA.out; rwa [HV.out] at this), hide (HFq.out.store HP.out (by omega) (by omega) j 1)⟩
            case measure => simp [intOf] <;> omega
          · rw [if_neg c1] at hrs
            obtain ⟨u1, hu1⟩ : ∃ u1, u1 = decide (0 < ry) := ⟨_, rfl⟩
            have c1' : u1 = false ∨ decide (ry ≤ B) = false := by
              by_cases h : 0 < ry
              · exact .inr (decide_eq_false (fun h2 => c1 ⟨h, h2⟩))
              · exact .inl (by rw [hu1]; exact decide_eq_false h)
            have hu1' : decide (0 < ry) = u1 := hu1.symm
            clear c1 hu1
            rcases c1' with rfl | dB
            · skip
              by_cases c2 : 0 < ra ∧ ra < now - t
              · have d3 : decide (0 < ra) = true := decide_eq_true c2.1
                have d4 : decide (ra < now - t) = true := decide_eq_true c2.2
                have HV := hide (show als.getD j 0 = 2 by rw [hrs, if_pos c2])
                clear c2 hrs
                go_wp2_with fail
                go_quiet (fail)
                have HFq := hide (HF.out.drewN nq)
                clear b0 b1 b2 b3 p0 p1 p2 rc rf q0
                generalize wr.drewN nq = wq at *
                obtain ⟨b0, b1, b2, b3⟩ := HFq.out.box.cells
                obtain ⟨_, _, e, p0, p1, p2⟩ := HFq.out.pcs j (by rw [HNN.out]; exact hj)
                injection e with e
                injection e with e1 e2
                subst e1 e2
                have rc := HFq.out.row.cell j (by rw [HDL2.out]; exact hj)
                have rf := HFq.out.row.free j
                rw [← HPC.out] at p0 p1 p2
                dsimp only at p0 p1 p2
                generalize D.getD j 0 = dj at rc
                go_wp2_with fail
                go_quiet (fail)
                replace HFq := hide (HFq.out.drewN nq)
                clear b0 b1 b2 b3 p0 p1 p2 rc rf
                generalize wq.drewN nq = wq2 at *
                obtain ⟨b0, b1, b2, b3⟩ := HFq.out.box.cells
                obtain ⟨_, _, e, p0, p1, p2⟩ := HFq.out.pcs j (by rw [HNN.out]; exact hj)
                injection e with e
                injection e with e1 e2
                subst e1 e2
                have rc := HFq.out.row.cell j (by rw [HDL2.out]; exact hj)
                have rf := HFq.out.row.free j
                rw [← HPC.out] at p0 p1 p2
                dsimp only at p0 p1 p2
                generalize D.getD j 0 = dj at rc
                go_wp2
                go_roundw
                case rel => exact ⟨j, (j : Int) - 1, B + y, D.set j 2, by omega, by go_num, by go_num, hide rfl, hide (by rw [HBY.out, Int.add_comm]), hide (by have := HR.out.put HJA.out; rwa [HV.out] at this), hide (HFq.out.store HP.out (by omega) (by omega) j 2)⟩
                case measure => simp [intOf] <;> omega
              · rw [if_neg c2] at hrs
                have c2' : decide (0 < ra) = false ∨ (decide (0 < ra) = true ∧ decide (ra < now - t) = false) := by
                  by_cases h : 0 < ra
                  · exact .inr ⟨decide_eq_true h, decide_eq_false (fun h2 => c2 ⟨h, h2⟩)⟩
                  · exact .inl (decide_eq_false h)
                clear c2
                rcases c2' with d3 | ⟨d3, d4⟩
                · by_cases c3 : 0 < rp ∧ rp ≤ (n : Int) - 1 - (j : Int)
                  · have d5 : decide (0 < rp) = true := decide_eq_true c3.1
                    have d6 : decide (rp ≤ (n : Int) - 1 - (j : Int)) = true := decide_eq_true c3.2
                    have HV := hide (show als.getD j 0 = 3 by rw [hrs, if_pos c3])
                    clear c3 hrs
                    go_wp2_with fail
                    go_quiet (fail)
                    have HFq := hide (HF.out.drewN nq)
                    clear b0 b1 b2 b3 p0 p1 p2 rc rf q0
                    generalize wr.drewN nq = wq at *
                    obtain ⟨b0, b1, b2, b3⟩ := HFq.out.box.cells
                    obtain ⟨_, _, e, p0, p1, p2⟩ := HFq.out.pcs j (by rw [HNN.out]; exact hj)
                    injection e with e
                    injection e with e1 e2
                    subst e1 e2
                    have rc := HFq.out.row.cell j (by rw [HDL2.out]; exact hj)
                    have rf := HFq.out.row.free j
                    rw [← HPC.out] at p0 p1 p2
                    dsimp only at p0 p1 p2
                    generalize D.getD j 0 = dj at rc
                    go_wp2_with fail
                    go_quiet (fail)
                    replace HFq := hide (HFq.out.drewN nq)
                    clear b0 b1 b2 b3 p0 p1 p2 rc rf
                    generalize wq.drewN nq = wq2 at *
                    obtain ⟨b0, b1, b2, b3⟩ := HFq.out.box.cells
                    obtain ⟨_, _, e, p0, p1, p2⟩ := HFq.out.pcs j (by rw [HNN.out]; exact hj)
                    injection e with e
                    injection e with e1 e2
                    subst e1 e2
                    have rc := HFq.out.row.cell j (by rw [HDL2.out]; exact hj)
                    have rf := HFq.out.row.free j
                    rw [← HPC.out] at p0 p1 p2
                    dsimp only at p0 p1 p2
                    generalize D.getD j 0 = dj at rc
                    go_wp2
                    go_roundw
                    case rel => exact ⟨j, (j : Int) - 1, B + y, D.set j 3, by omega, by go_num, by go_num, hide rfl, hide (by rw [HBY.out, Int.add_comm]), hide (by have := HR.out.put HJA.out; rwa [HV.out] at this), hide (HFq.out.store HP.out (by omega) (by omega) j 3)⟩
                    case measure => simp [intOf] <;> omega
                  · have HV := hide (show als.getD j 0 = 0 by rw [hrs, if_neg c3])
                    have c3' : decide (0 < rp) = false ∨ (decide (0 < rp) = true ∧ decide (rp ≤ (n : Int) - 1 - (j : Int)) = false) := by
                      by_cases h : 0 < rp
                      · exact .inr ⟨decide_eq_true h, decide_eq_false (fun h2 => c3 ⟨h, h2⟩)⟩
                      · exact .inl (decide_eq_false h)
                    clear c3 hrs
                    rcases c3' with d5 | ⟨d5, d6⟩
                    · skip
                      go_wp2_with fail
                      go_quiet (fail)
                      have HFq := hide (HF.out.drewN nq)
                      clear b0 b1 b2 b3 p0 p1 p2 rc rf q0
                      generalize wr.drewN nq = wq at *
                      obtain ⟨b0, b1, b2, b3⟩ := HFq.out.box.cells
                      obtain ⟨_, _, e, p0, p1, p2⟩ := HFq.out.pcs j (by rw [HNN.out]; exact hj)
                      injection e with e
                      injection e with e1 e2
                      subst e1 e2
                      have rc := HFq.out.row.cell j (by rw [HDL2.out]; exact hj)
                      have rf := HFq.out.row.free j
                      rw [← HPC.out] at p0 p1 p2
                      dsimp only at p0 p1 p2
                      generalize D.getD j 0 = dj at rc
                      go_wp2_with fail
                      go_quiet (fail)
                      replace HFq := hide (HFq.out.drewN nq)
                      clear b0 b1 b2 b3 p0 p1 p2 rc rf
                      generalize wq.drewN nq = wq2 at *
                      obtain ⟨b0, b1, b2, b3⟩ := HFq.out.box.cells
                      obtain ⟨_, _, e, p0, p1, p2⟩ := HFq.out.pcs j (by rw [HNN.out]; exact hj)
                      injection e with e
                      injection e with e1 e2
                      subst e1 e2
                      have rc := HFq.out.row.cell j (by rw [HDL2.out]; exact hj)
                      have rf := HFq.out.row.free j
                      rw [← HPC.out] at p0 p1 p2
                      dsimp only at p0 p1 p2
                      generalize D.getD j 0 = dj at rc
                      go_wp2
                      go_roundw
                      case rel => exact ⟨j, (j : Int) - 1, B + y, D, by omega, by go_num, by go_num, hide rfl, hide (by rw [HBY.out, Int.add_comm]), hide (HR.out.stay HV.out), HFq⟩
                      case measure => simp [intOf] <;> omega
                    · skip
                      go_wp2_with fail
                      go_quiet (fail)
                      have HFq := hide (HF.out.drewN nq)
                      clear b0 b1 b2 b3 p0 p1 p2 rc rf q0
                      generalize wr.drewN nq = wq at *
                      obtain ⟨b0, b1, b2, b3⟩ := HFq.out.box.cells
                      obtain ⟨_, _, e, p0, p1, p2⟩ := HFq.out.pcs j (by rw [HNN.out]; exact hj)
                      injection e with e
                      injection e with e1 e2
                      subst e1 e2
                      have rc := HFq.out.row.cell j (by rw [HDL2.out]; exact hj)
                      have rf := HFq.out.row.free j
                      rw [← HPC.out] at p0 p1 p2
                      dsimp only at p0 p1 p2
                      generalize D.getD j 0 = dj at rc
                      go_wp2_with fail
                      go_quiet (fail)
                      replace HFq := hide (HFq.out.drewN nq)
                      clear b0 b1 b2 b3 p0 p1 p2 rc rf
                      generalize wq.drewN nq = wq2 at *
                      obtain ⟨b0, b1, b2, b3⟩ := HFq.out.box.cells
                      obtain ⟨_, _, e, p0, p1, p2⟩ := HFq.out.pcs j (by rw [HNN.out]; exact hj)
                      injection e with e
                      injection e with e1 e2
                      subst e1 e2
                      have rc := HFq.out.row.cell j (by rw [HDL2.out]; exact hj)
                      have rf := HFq.out.row.free j
                      rw [← HPC.out] at p0 p1 p2
                      dsimp only at p0 p1 p2
                      generalize D.getD j 0 = dj at rc
                      go_wp2
                      go_roundw
                      case rel => exact ⟨j, (j : Int) - 1, B + y, D, by omega, by go_num, by go_num, hide rfl, hide (by rw [HBY.out, Int.add_comm]), hide (HR.out.stay HV.out), HFq⟩
                      case measure => simp [intOf] <;> omega
                · by_cases c3 : 0 < rp ∧ rp ≤ (n : Int) - 1 - (j : Int)
                  · have d5 : decide (0 < rp) = true := decide_eq_true c3.1
                    have d6 : decide (rp ≤ (n : Int) - 1 - (j : Int)) = true := decide_eq_true c3.2
                    have HV := hide (show als.getD j 0 = 3 by rw [hrs, if_pos c3])
                    clear c3 hrs
                    go_wp2_with fail
                    go_quiet (fail)
                    have HFq := hide (HF.out.drewN nq)
                    clear b0 b1 b2 b3 p0 p1 p2 rc rf q0
                    generalize wr.drewN nq = wq at *
                    obtain ⟨b0, b1, b2, b3⟩ := HFq.out.box.cells
                    obtain ⟨_, _, e, p0, p1, p2⟩ := HFq.out.pcs j (by rw [HNN.out]; exact hj)
                    injection e with e
                    injection e with e1 e2
                    subst e1 e2
                    have rc := HFq.out.row.cell j (by rw [HDL2.out]; exact hj)
                    have rf := HFq.out.row.free j
                    rw [← HPC.out] at p0 p1 p2
                    dsimp only at p0 p1 p2
                    generalize D.getD j 0 = dj at rc
                    go_wp2_with fail
                    go_quiet (fail)
                    replace HFq := hide (HFq.out.drewN nq)
                    clear b0 b1 b2 b3 p0 p1 p2 rc rf
                    generalize wq.drewN nq = wq2 at *
                    obtain ⟨b0, b1, b2, b3⟩ := HFq.out.box.cells
                    obtain ⟨_, _, e, p0, p1, p2⟩ := HFq.out.pcs j (by rw [HNN.out]; exact hj)
                    injection e with e
                    injection e with e1 e2
                    subst e1 e2
                    have rc := HFq.out.row.cell j (by rw [HDL2.out]; exact hj)
                    have rf := HFq.out.row.free j
                    rw [← HPC.out] at p0 p1 p2
                    dsimp only at p0 p1 p2
                    generalize D.getD j 0 = dj at rc
                    go_wp2
                    go_roundw
                    case rel => exact ⟨j, (j : Int) - 1, B + y, D.set j 3, by omega, by go_num, by go_num, hide rfl, hide (by rw [HBY.out, Int.add_comm]), hide (by have := HR.out.put HJA.out; rwa [HV.out] at this), hide (HFq.out.store HP.out (by omega) (by omega) j 3)⟩
                    case measure => simp [intOf] <;> omega
                  · have HV := hide (show als.getD j 0 = 0 by rw [hrs, if_neg c3])
                    have c3' : decide (0 < rp) = false ∨ (decide (0 < rp) = true ∧ decide (rp ≤ (n : Int) - 1 - (j : Int)) = false) := by
                      by_cases h : 0 < rp
                      · exact .inr ⟨decide_eq_true h, decide_eq_false (fun h2 => c3 ⟨h, h2⟩)⟩
                      · exact .inl (decide_eq_false h)
                    clear c3 hrs
                    rcases c3' with d5 | ⟨d5, d6⟩
                    · skip
                      go_wp2_with fail
                      go_quiet (fail)
                      have HFq := hide (HF.out.drewN nq)
                      clear b0 b1 b2 b3 p0 p1 p2 rc rf q0
                      generalize wr.drewN nq = wq at *
                      obtain ⟨b0, b1, b2, b3⟩ := HFq.out.box.cells
                      obtain ⟨_, _, e, p0, p1, p2⟩ := HFq.out.pcs j (by rw [HNN.out]; exact hj)
                      injection e with e
                      injection e with e1 e2
                      subst e1 e2
                      have rc := HFq.out.row.cell j (by rw [HDL2.out]; exact hj)
                      have rf := HFq.out.row.free j
                      rw [← HPC.out] at p0 p1 p2
                      dsimp only at p0 p1 p2
                      generalize D.getD j 0 = dj at rc
                      go_wp2_with fail
                      go_quiet (fail)
                      replace HFq := hide (HFq.out.drewN nq)
                      clear b0 b1 b2 b3 p0 p1 p2 rc rf
                      generalize wq.drewN nq = wq2 at *
                      obtain ⟨b0, b1, b2, b3⟩ := HFq.out.box.cells
                      obtain ⟨_, _, e, p0, p1, p2⟩ := HFq.out.pcs j (by rw [HNN.out]; exact hj)
                      injection e with e
                      injection e with e1 e2
                      subst e1 e2
                      have rc := HFq.out.row.cell j (by rw [HDL2.out]; exact hj)
                      have rf := HFq.out.row.free j
                      rw [← HPC.out] at p0 p1 p2
                      dsimp only at p0 p1 p2
                      generalize D.getD j 0 = dj at rc
                      go_wp2
                      go_roundw
                      case rel => exact ⟨j, (j : Int) - 1, B + y, D, by omega, by go_num, by go_num, hide rfl, hide (by rw [HBY.out, Int.add_comm]), hide (HR.out.stay HV.out), HFq⟩
                      case measure => simp [intOf] <;> omega
                    · skip
                      go_wp2_with fail
                      go_quiet (fail)
                      have HFq := hide (HF.out.drewN nq)
                      clear b0 b1 b2 b3 p0 p1 p2 rc rf q0
                      generalize wr.drewN nq = wq at *
                      obtain ⟨b0, b1, b2, b3⟩ := HFq.out.box.cells
                      obtain ⟨_, _, e, p0, p1, p2⟩ := HFq.out.pcs j (by rw [HNN.out]; exact hj)
                      injection e with e
                      injection e with e1 e2
                      subst e1 e2
                      have rc := HFq.out.row.cell j (by rw [HDL2.out]; exact hj)
                      have rf := HFq.out.row.free j
                      rw [← HPC.out] at p0 p1 p2
                      dsimp only at p0 p1 p2
                      generalize D.getD j 0 = dj at rc
                      go_wp2_with fail
                      go_quiet (fail)
                      replace HFq := hide (HFq.out.drewN nq)
                      clear b0 b1 b2 b3 p0 p1 p2 rc rf
                      generalize wq.drewN nq = wq2 at *
                      obtain ⟨b0, b1, b2, b3⟩ := HFq.out.box.cells
                      obtain ⟨_, _, e, p0, p1, p2⟩ := HFq.out.pcs j (by rw [HNN.out]; exact hj)
                      injection e with e
                      injection e with e1 e2
                      subst e1 e2
                      have rc := HFq.out.row.cell j (by rw [HDL2.out]; exact hj)
                      have rf := HFq.out.row.free j
                      rw [← HPC.out] at p0 p1 p2
                      dsimp only at p0 p1 p2
                      generalize D.getD j 0 = dj at rc
                      go_wp2
                      go_roundw
                      case rel => exact ⟨j, (j : Int) - 1, B + y, D, by omega, by go_num, by go_num, hide rfl, hide (by rw [HBY.out, Int.add_comm]), hide (HR.out.stay HV.out), HFq⟩
                      case measure => simp [intOf] <;> omega
            · cases u1
              · skip
                by_cases c2 : 0 < ra ∧ ra < now - t
                · have d3 : decide (0 < ra) = true := decide_eq_true c2.1
                  have d4 : decide (ra < now - t) = true := decide_eq_true c2.2
                  have HV := hide (show als.getD j 0 = 2 by rw [hrs, if_pos c2])
                  clear c2 hrs
                  go_wp2_with fail
                  go_quiet (fail)
                  have HFq := hide (HF.out.drewN nq)
                  clear b0 b1 b2 b3 p0 p1 p2 rc rf q0
                  generalize wr.drewN nq = wq at *
                  obtain ⟨b0, b1, b2, b3⟩ := HFq.out.box.cells
                  obtain ⟨_, _, e, p0, p1, p2⟩ := HFq.out.pcs j (by rw [HNN.out]; exact hj)
                  injection e with e
                  injection e with e1 e2
                  subst e1 e2
                  have rc := HFq.out.row.cell j (by rw [HDL2.out]; exact hj)
                  have rf := HFq.out.row.free j
                  rw [← HPC.out] at p0 p1 p2
                  dsimp only at p0 p1 p2
                  generalize D.getD j 0 = dj at rc
                  go_wp2_with fail
                  go_quiet (fail)
                  replace HFq := hide (HFq.out.drewN nq)
                  clear b0 b1 b2 b3 p0 p1 p2 rc rf
                  generalize wq.drewN nq = wq2 at *
                  obtain ⟨b0, b1, b2, b3⟩ := HFq.out.box.cells
                  obtain ⟨_, _, e, p0, p1, p2⟩ := HFq.out.pcs j (by rw [HNN.out]; exact hj)
                  injection e with e
                  injection e with e1 e2
                  subst e1 e2
                  have rc := HFq.out.row.cell j (by rw [HDL2.out]; exact hj)
                  have rf := HFq.out.row.free j
                  rw [← HPC.out] at p0 p1 p2
                  dsimp only at p0 p1 p2
                  generalize D.getD j 0 = dj at rc
                  go_wp2
                  go_roundw
                  case rel => exact ⟨j, (j : Int) - 1, B + y, D.set j 2, by omega, by go_num, by go_num, hide rfl, hide (by rw [HBY.out, Int.add_comm]), hide (by have := HR.out.put HJA.out; rwa [HV.out] at this), hide (HFq.out.store HP.out (by omega) (by omega) j 2)⟩
                  case measure => simp [intOf] <;> omega
                · rw [if_neg c2] at hrs
                  have c2' : decide (0 < ra) = false ∨ (decide (0 < ra) = true ∧ decide (ra < now - t) = false) := by
                    by_cases h : 0 < ra
                    · exact .inr ⟨decide_eq_true h, decide_eq_false (fun h2 => c2 ⟨h, h2⟩)⟩
                    · exact .inl (decide_eq_false h)
                  clear c2
                  rcases c2' with d3 | ⟨d3, d4⟩
                  · by_cases c3 : 0 < rp ∧ rp ≤ (n : Int) - 1 - (j : Int)
                    · have d5 : decide (0 < rp) = true := decide_eq_true c3.1
                      have d6 : decide (rp ≤ (n : Int) - 1 - (j : Int)) = true := decide_eq_true c3.2
                      have HV := hide (show als.getD j 0 = 3 by rw [hrs, if_pos c3])
                      clear c3 hrs
                      go_wp2_with fail
                      go_quiet (fail)
                      have HFq := hide (HF.out.drewN nq)
                      clear b0 b1 b2 b3 p0 p1 p2 rc rf q0
                      generalize wr.drewN nq = wq at *
                      obtain ⟨b0, b1, b2, b3⟩ := HFq.out.box.cells
                      obtain ⟨_, _, e, p0, p1, p2⟩ := HFq.out.pcs j (by rw [HNN.out]; exact hj)
                      injection e with e
                      injection e with e1 e2
                      subst e1 e2
                      have rc := HFq.out.row.cell j (by rw [HDL2.out]; exact hj)
                      have rf := HFq.out.row.free j
                      rw [← HPC.out] at p0 p1 p2
                      dsimp only at p0 p1 p2
                      generalize D.getD j 0 = dj at rc
                      go_wp2_with fail
                      go_quiet (fail)
                      replace HFq := hide (HFq.out.drewN nq)
                      clear b0 b1 b2 b3 p0 p1 p2 rc rf
                      generalize wq.drewN nq = wq2 at *
                      obtain ⟨b0, b1, b2, b3⟩ := HFq.out.box.cells
                      obtain ⟨_, _, e, p0, p1, p2⟩ := HFq.out.pcs j (by rw [HNN.out]; exact hj)
                      injection e with e
                      injection e with e1 e2
                      subst e1 e2
                      have rc := HFq.out.row.cell j (by rw [HDL2.out]; exact hj)
                      have rf := HFq.out.row.free j
                      rw [← HPC.out] at p0 p1 p2
                      dsimp only at p0 p1 p2
                      generalize D.getD j 0 = dj at rc
                      go_wp2
                      go_roundw
                      case rel => exact ⟨j, (j : Int) - 1, B + y, D.set j 3, by omega, by go_num, by go_num, hide rfl, hide (by rw [HBY.out, Int.add_comm]), hide (by have := HR.out.put HJA.out; rwa [HV.out] at this), hide (HFq.out.store HP.out (by omega) (by omega) j 3)⟩
                      case measure => simp [intOf] <;> omega
                    · have HV := hide (show als.getD j 0 = 0 by rw [hrs, if_neg c3])
                      have c3' : decide (0 < rp) = false ∨ (decide (0 < rp) = true ∧ decide (rp ≤ (n : Int) - 1 - (j : Int)) = false) := by
                        by_cases h : 0 < rp
                        · exact .inr ⟨decide_eq_true h, decide_eq_false (fun h2 => c3 ⟨h, h2⟩)⟩
                        · exact .inl (decide_eq_false h)
                      clear c3 hrs
                      rcases c3' with d5 | ⟨d5, d6⟩
                      · skip
                        go_wp2_with fail
                        go_quiet (fail)
                        have HFq := hide (HF.out.drewN nq)
                        clear b0 b1 b2 b3 p0 p1 p2 rc rf q0
                        generalize wr.drewN nq = wq at *
                        obtain ⟨b0, b1, b2, b3⟩ := HFq.out.box.cells
                        obtain ⟨_, _, e, p0, p1, p2⟩ := HFq.out.pcs j (by rw [HNN.out]; exact hj)
                        injection e with e
                        injection e with e1 e2
                        subst e1 e2
                        have rc := HFq.out.row.cell j (by rw [HDL2.out]; exact hj)
                        have rf := HFq.out.row.free j
                        rw [← HPC.out] at p0 p1 p2
                        dsimp only at p0 p1 p2
                        generalize D.getD j 0 = dj at rc
                        go_wp2_with fail
                        go_quiet (fail)
                        replace HFq := hide (HFq.out.drewN nq)
                        clear b0 b1 b2 b3 p0 p1 p2 rc rf
                        generalize wq.drewN nq = wq2 at *
                        obtain ⟨b0, b1, b2, b3⟩ := HFq.out.box.cells
                        obtain ⟨_, _, e, p0, p1, p2⟩ := HFq.out.pcs j (by rw [HNN.out]; exact hj)
                        injection e with e
                        injection e with e1 e2
                        subst e1 e2
                        have rc := HFq.out.row.cell j (by rw [HDL2.out]; exact hj)
                        have rf := HFq.out.row.free j
                        rw [← HPC.out] at p0 p1 p2
                        dsimp only at p0 p1 p2
                        generalize D.getD j 0 = dj at rc
                        go_wp2
                        go_roundw
                        case rel => exact ⟨j, (j : Int) - 1, B + y, D, by omega, by go_num, by go_num, hide rfl, hide (by rw [HBY.out, Int.add_comm]), hide (HR.out.stay HV.out), HFq⟩
                        case measure => simp [intOf] <;> omega
                      · skip
                        go_wp2_with fail
                        go_quiet (fail)
                        have HFq := hide (HF.out.drewN nq)
                        clear b0 b1 b2 b3 p0 p1 p2 rc rf q0
                        generalize wr.drewN nq = wq at *
                        obtain ⟨b0, b1, b2, b3⟩ := HFq.out.box.cells
                        obtain ⟨_, _, e, p0, p1, p2⟩ := HFq.out.pcs j (by rw [HNN.out]; exact hj)
                        injection e with e
                        injection e with e1 e2
                        subst e1 e2
                        have rc := HFq.out.row.cell j (by rw [HDL2.out]; exact hj)
                        have rf := HFq.out.row.free j
                        rw [← HPC.out] at p0 p1 p2
                        dsimp only at p0 p1 p2
                        generalize D.getD j 0 = dj at rc
                        go_wp2_with fail
                        go_quiet (fail)
                        replace HFq := hide (HFq.out.drewN nq)
                        clear b0 b1 b2 b3 p0 p1 p2 rc rf
                        generalize wq.drewN nq = wq2 at *
                        obtain ⟨b0, b1, b2, b3⟩ := HFq.out.box.cells
                        obtain ⟨_, _, e, p0, p1, p2⟩ := HFq.out.pcs j (by rw [HNN.out]; exact hj)
                        injection e with e
                        injection e with e1 e2
                        subst e1 e2
                        have rc := HFq.out.row.cell j (by rw [HDL2.out]; exact hj)
                        have rf := HFq.out.row.free j
                        rw [← HPC.out] at p0 p1 p2
                        dsimp only at p0 p1 p2
                        generalize D.getD j 0 = dj at rc
                        go_wp2
                        go_roundw
                        case rel => exact ⟨j, (j : Int) - 1, B + y, D, by omega, by go_num, by go_num, hide rfl, hide (by rw [HBY.out, Int.add_comm]), hide (HR.out.stay HV.out), HFq⟩
                        case measure => simp [intOf] <;> omega
                  · by_cases c3 : 0 < rp ∧ rp ≤ (n : Int) - 1 - (j : Int)
                    · have d5 : decide (0 < rp) = true := decide_eq_true c3.1
                      have d6 : decide (rp ≤ (n : Int) - 1 - (j : Int)) = true := decide_eq_true c3.2
                      have HV := hide (show als.getD j 0 = 3 by rw [hrs, if_pos c3])
                      clear c3 hrs
                      go_wp2_with fail
                      go_quiet (fail)
                      have HFq := hide (HF.out.drewN nq)
                      clear b0 b1 b2 b3 p0 p1 p2 rc rf q0
                      generalize wr.drewN nq = wq at *
                      obtain ⟨b0, b1, b2, b3⟩ := HFq.out.box.cells
                      obtain ⟨_, _, e, p0, p1, p2⟩ := HFq.out.pcs j (by rw [HNN.out]; exact hj)
                      injection e with e
                      injection e with e1 e2
                      subst e1 e2
                      have rc := HFq.out.row.cell j (by rw [HDL2.out]; exact hj)
                      have rf := HFq.out.row.free j
                      rw [← HPC.out] at p0 p1 p2
                      dsimp only at p0 p1 p2
                      generalize D.getD j 0 = dj at rc
                      go_wp2_with fail
                      go_quiet (fail)
                      replace HFq := hide (HFq.out.drewN nq)
                      clear b0 b1 b2 b3 p0 p1 p2 rc rf
                      generalize wq.drewN nq = wq2 at *
                      obtain ⟨b0, b1, b2, b3⟩ := HFq.out.box.cells
                      obtain ⟨_, _, e, p0, p1, p2⟩ := HFq.out.pcs j (by rw [HNN.out]; exact hj)
                      injection e with e
                      injection e with e1 e2
                      subst e1 e2
                      have rc := HFq.out.row.cell j (by rw [HDL2.out]; exact hj)
                      have rf := HFq.out.row.free j
                      rw [← HPC.out] at p0 p1 p2
                      dsimp only at p0 p1 p2
                      generalize D.getD j 0 = dj at rc
                      go_wp2
                      go_roundw
                      case rel => exact ⟨j, (j : Int) - 1, B + y, D.set j 3, by omega, by go_num, by go_num, hide rfl, hide (by rw [HBY.out, Int.add_comm]), hide (by have := HR.out.put HJA.out; rwa [HV.out] at this), hide (HFq.out.store HP.out (by omega) (by omega) j 3)⟩
                      case measure => simp [intOf] <;> omega
                    · have HV := hide (show als.getD j 0 = 0 by rw [hrs, if_neg c3])
                      have c3' : decide (0 < rp) = false ∨ (decide (0 < rp) = true ∧ decide (rp ≤ (n : Int) - 1 - (j : Int)) = false) := by
                        by_cases h : 0 < rp
                        · exact .inr ⟨decide_eq_true h, decide_eq_false (fun h2 => c3 ⟨h, h2⟩)⟩
                        · exact .inl (decide_eq_false h)
                      clear c3 hrs
                      rcases c3' with d5 | ⟨d5, d6⟩
                      · skip
                        go_wp2_with fail
                        go_quiet (fail)
                        have HFq := hide (HF.out.drewN nq)
                        clear b0 b1 b2 b3 p0 p1 p2 rc rf q0
                        generalize wr.drewN nq = wq at *
                        obtain ⟨b0, b1, b2, b3⟩ := HFq.out.box.cells
                        obtain ⟨_, _, e, p0, p1, p2⟩ := HFq.out.pcs j (by rw [HNN.out]; exact hj)
                        injection e with e
                        injection e with e1 e2
                        subst e1 e2
                        have rc := HFq.out.row.cell j (by rw [HDL2.out]; exact hj)
                        have rf := HFq.out.row.free j
                        rw [← HPC.out] at p0 p1 p2
                        dsimp only at p0 p1 p2
                        generalize D.getD j 0 = dj at rc
                        go_wp2_with fail
                        go_quiet (fail)
                        replace HFq := hide (HFq.out.drewN nq)
                        clear b0 b1 b2 b3 p0 p1 p2 rc rf
                        generalize wq.drewN nq = wq2 at *
                        obtain ⟨b0, b1, b2, b3⟩ := HFq.out.box.cells
                        obtain ⟨_, _, e, p0, p1, p2⟩ := HFq.out.pcs j (by rw [HNN.out]; exact hj)
                        injection e with e
                        injection e with e1 e2
                        subst e1 e2
                        have rc := HFq.out.row.cell j (by rw [HDL2.out]; exact hj)
                        have rf := HFq.out.row.free j
                        rw [← HPC.out] at p0 p1 p2
                        dsimp only at p0 p1 p2
                        generalize D.getD j 0 = dj at rc
                        go_wp2
                        go_roundw
                        case rel => exact ⟨j, (j : Int) - 1, B + y, D, by omega, by go_num, by go_num, hide rfl, hide (by rw [HBY.out, Int.add_comm]), hide (HR.out.stay HV.out), HFq⟩
                        case measure => simp [intOf] <;> omega
                      · skip
                        go_wp2_with fail
                        go_quiet (fail)
                        have HFq := hide (HF.out.drewN nq)
                        clear b0 b1 b2 b3 p0 p1 p2 rc rf q0
                        generalize wr.drewN nq = wq at *
                        obtain ⟨b0, b1, b2, b3⟩ := HFq.out.box.cells
                        obtain ⟨_, _, e, p0, p1, p2⟩ := HFq.out.pcs j (by rw [HNN.out]; exact hj)
                        injection e with e
                        injection e with e1 e2
                        subst e1 e2
                        have rc := HFq.out.row.cell j (by rw [HDL2.out]; exact hj)
                        have rf := HFq.out.row.free j
                        rw [← HPC.out] at p0 p1 p2
                        dsimp only at p0 p1 p2
                        generalize D.getD j 0 = dj at rc
                        go_wp2_with fail
                        go_quiet (fail)
                        replace HFq := hide (HFq.out.drewN nq)
                        clear b0 b1 b2 b3 p0 p1 p2 rc rf
                        generalize wq.drewN nq = wq2 at *
                        obtain ⟨b0, b1, b2, b3⟩ := HFq.out.box.cells
                        obtain ⟨_, _, e, p0, p1, p2⟩ := HFq.out.pcs j (by rw [HNN.out]; exact hj)
                        injection e with e
                        injection e with e1 e2
                        subst e1 e2
                        have rc := HFq.out.row.cell j (by rw [HDL2.out]; exact hj)
                        have rf := HFq.out.row.free j
                        rw [← HPC.out] at p0 p1 p2
                        dsimp only at p0 p1 p2
                        generalize D.getD j 0 = dj at rc
                        go_wp2
                        go_roundw
                        case rel => exact ⟨j, (j : Int) - 1, B + y, D, by omega, by go_num, by go_num, hide rfl, hide (by rw [HBY.out, Int.add_comm]), hide (HR.out.stay HV.out), HFq⟩
                        case measure => simp [intOf] <;> omega
              · skip
                by_cases c2 : 0 < ra ∧ ra < now - t
                · have d3 : decide (0 < ra) = true := decide_eq_true c2.1
                  have d4 : decide (ra < now - t) = true := decide_eq_true c2.2
                  have HV := hide (show als.getD j 0 = 2 by rw [hrs, if_pos c2])
                  clear c2 hrs
                  go_wp2_with fail
                  go_quiet (fail)
                  have HFq := hide (HF.out.drewN nq)
                  clear b0 b1 b2 b3 p0 p1 p2 rc rf q0
                  generalize wr.drewN nq = wq at *
                  obtain ⟨b0, b1, b2, b3⟩ := HFq.out.box.cells
                  obtain ⟨_, _, e, p0, p1, p2⟩ := HFq.out.pcs j (by rw [HNN.out]; exact hj)
                  injection e with e
                  injection e with e1 e2
                  subst e1 e2
                  have rc := HFq.out.row.cell j (by rw [HDL2.out]; exact hj)
                  have rf := HFq.out.row.free j
                  rw [← HPC.out] at p0 p1 p2
                  dsimp only at p0 p1 p2
                  generalize D.getD j 0 = dj at rc
                  go_wp2_with fail
                  go_quiet (fail)
                  replace HFq := hide (HFq.out.drewN nq)
                  clear b0 b1 b2 b3 p0 p1 p2 rc rf
                  generalize wq.drewN nq = wq2 at *
                  obtain ⟨b0, b1, b2, b3⟩ := HFq.out.box.cells
                  obtain ⟨_, _, e, p0, p1, p2⟩ := HFq.out.pcs j (by rw [HNN.out]; exact hj)
                  injection e with e
                  injection e with e1 e2
                  subst e1 e2
                  have rc := HFq.out.row.cell j (by rw [HDL2.out]; exact hj)
                  have rf := HFq.out.row.free j
                  rw [← HPC.out] at p0 p1 p2
                  dsimp only at p0 p1 p2
                  generalize D.getD j 0 = dj at rc
                  go_wp2
                  go_roundw
                  case rel => exact ⟨j, (j : Int) - 1, B + y, D.set j 2, by omega, by go_num, by go_num, hide rfl, hide (by rw [HBY.out, Int.add_comm]), hide (by have := HR.out.put HJA.out; rwa [HV.out] at this), hide (HFq.out.store HP.out (by omega) (by omega) j 2)⟩
                  case measure => simp [intOf] <;> omega
                · rw [if_neg c2] at hrs
                  have c2' : decide (0 < ra) = false ∨ (decide (0 < ra) = true ∧ decide (ra < now - t) = false) := by
                    by_cases h : 0 < ra
                    · exact .inr ⟨decide_eq_true h, decide_eq_false (fun h2 => c2 ⟨h, h2⟩)⟩
                    · exact .inl (decide_eq_false h)
                  clear c2
                  rcases c2' with d3 | ⟨d3, d4⟩
                  · by_cases c3 : 0 < rp ∧ rp ≤ (n : Int) - 1 - (j : Int)
                    · have d5 : decide (0 < rp) = true := decide_eq_true c3.1
                      have d6 : decide (rp ≤ (n : Int) - 1 - (j : Int)) = true := decide_eq_true c3.2
                      have HV := hide (show als.getD j 0 = 3 by rw [hrs, if_pos c3])
                      clear c3 hrs
                      go_wp2_with fail
                      go_quiet (fail)
                      have HFq := hide (HF.out.drewN nq)
                      clear b0 b1 b2 b3 p0 p1 p2 rc rf q0
                      generalize wr.drewN nq = wq at *
                      obtain ⟨b0, b1, b2, b3⟩ := HFq.out.box.cells
                      obtain ⟨_, _, e, p0, p1, p2⟩ := HFq.out.pcs j (by rw [HNN.out]; exact hj)
                      injection e with e
                      injection e with e1 e2
                      subst e1 e2
                      have rc := HFq.out.row.cell j (by rw [HDL2.out]; exact hj)
                      have rf := HFq.out.row.free j
                      rw [← HPC.out] at p0 p1 p2
                      dsimp only at p0 p1 p2
                      generalize D.getD j 0 = dj at rc
                      go_wp2_with fail
                      go_quiet (fail)
                      replace HFq := hide (HFq.out.drewN nq)
                      clear b0 b1 b2 b3 p0 p1 p2 rc rf
                      generalize wq.drewN nq = wq2 at *
                      obtain ⟨b0, b1, b2, b3⟩ := HFq.out.box.cells
                      obtain ⟨_, _, e, p0, p1, p2⟩ := HFq.out.pcs j (by rw [HNN.out]; exact hj)
                      injection e with e
                      injection e with e1 e2
                      subst e1 e2
                      have rc := HFq.out.row.cell j (by rw [HDL2.out]; exact hj)
                      have rf := HFq.out.row.free j
                      rw [← HPC.out] at p0 p1 p2
                      dsimp only at p0 p1 p2
                      generalize D.getD j 0 = dj at rc
                      go_wp2
                      go_roundw
                      case rel => exact ⟨j, (j : Int) - 1, B + y, D.set j 3, by omega, by go_num, by go_num, hide rfl, hide (by rw [HBY.out, Int.add_comm]), hide (by have := HR.out.put HJA.out; rwa [HV.out] at this), hide (HFq.out.store HP.out (by omega) (by omega) j 3)⟩
                      case measure => simp [intOf] <;> omega
                    · have HV := hide (show als.getD j 0 = 0 by rw [hrs, if_neg c3])
                      have c3' : decide (0 < rp) = false ∨ (decide (0 < rp) = true ∧ decide (rp ≤ (n : Int) - 1 - (j : Int)) = false) := by
                        by_cases h : 0 < rp
                        · exact .inr ⟨decide_eq_true h, decide_eq_false (fun h2 => c3 ⟨h, h2⟩)⟩
                        · exact .inl (decide_eq_false h)
                      clear c3 hrs
                      rcases c3' with d5 | ⟨d5, d6⟩
                      · skip
                        go_wp2_with fail
                        go_quiet (fail)
                        have HFq := hide (HF.out.drewN nq)
                        clear b0 b1 b2 b3 p0 p1 p2 rc rf q0
                        generalize wr.drewN nq = wq at *
                        obtain ⟨b0, b1, b2, b3⟩ := HFq.out.box.cells
                        obtain ⟨_, _, e, p0, p1, p2⟩ := HFq.out.pcs j (by rw [HNN.out]; exact hj)
                        injection e with e
                        injection e with e1 e2
                        subst e1 e2
                        have rc := HFq.out.row.cell j (by rw [HDL2.out]; exact hj)
                        have rf := HFq.out.row.free j
                        rw [← HPC.out] at p0 p1 p2
                        dsimp only at p0 p1 p2
                        generalize D.getD j 0 = dj at rc
                        go_wp2_with fail
                        go_quiet (fail)
                        replace HFq := hide (HFq.out.drewN nq)
                        clear b0 b1 b2 b3 p0 p1 p2 rc rf
                        generalize wq.drewN nq = wq2 at *
                        obtain ⟨b0, b1, b2, b3⟩ := HFq.out.box.cells
                        obtain ⟨_, _, e, p0, p1, p2⟩ := HFq.out.pcs j (by rw [HNN.out]; exact hj)
                        injection e with e
                        injection e with e1 e2
                        subst e1 e2
                        have rc := HFq.out.row.cell j (by rw [HDL2.out]; exact hj)
                        have rf := HFq.out.row.free j
                        rw [← HPC.out] at p0 p1 p2
                        dsimp only at p0 p1 p2
                        generalize D.getD j 0 = dj at rc
                        go_wp2
                        go_roundw
                        case rel => exact ⟨j, (j : Int) - 1, B + y, D, by omega, by go_num, by go_num, hide rfl, hide (by rw [HBY.out, Int.add_comm]), hide (HR.out.stay HV.out), HFq⟩
                        case measure => simp [intOf] <;> omega
                      · skip
                        go_wp2_with fail
                        go_quiet (fail)
                        have HFq := hide (HF.out.drewN nq)
                        clear b0 b1 b2 b3 p0 p1 p2 rc rf q0
                        generalize wr.drewN nq = wq at *
                        obtain ⟨b0, b1, b2, b3⟩ := HFq.out.box.cells
                        obtain ⟨_, _, e, p0, p1, p2⟩ := HFq.out.pcs j (by rw [HNN.out]; exact hj)
                        injection e with e
                        injection e with e1 e2
                        subst e1 e2
                        have rc := HFq.out.row.cell j (by rw [HDL2.out]; exact hj)
                        have rf := HFq.out.row.free j
                        rw [← HPC.out] at p0 p1 p2
                        dsimp only at p0 p1 p2
                        generalize D.getD j 0 = dj at rc
                        go_wp2_with fail
                        go_quiet (fail)
                        replace HFq := hide (HFq.out.drewN nq)
                        clear b0 b1 b2 b3 p0 p1 p2 rc rf
                        generalize wq.drewN nq = wq2 at *
                        obtain ⟨b0, b1, b2, b3⟩ := HFq.out.box.cells
                        obtain ⟨_, _, e, p0, p1, p2⟩ := HFq.out.pcs j (by rw [HNN.out]; exact hj)
                        injection e with e
                        injection e with e1 e2
                        subst e1 e2
                        have rc := HFq.out.row.cell j (by rw [HDL2.out]; exact hj)
                        have rf := HFq.out.row.free j
                        rw [← HPC.out] at p0 p1 p2
                        dsimp only at p0 p1 p2
                        generalize D.getD j 0 = dj at rc
                        go_wp2
                        go_roundw
                        case rel => exact ⟨j, (j : Int) - 1, B + y, D, by omega, by go_num, by go_num, hide rfl, hide (by rw [HBY.out, Int.add_comm]), hide (HR.out.stay HV.out), HFq⟩
                        case measure => simp [intOf] <;> omega
                  · by_cases c3 : 0 < rp ∧ rp ≤ (n : Int) - 1 - (j : Int)
                    · have d5 : decide (0 < rp) = true := decide_eq_true c3.1
                      have d6 : decide (rp ≤ (n : Int) - 1 - (j : Int)) = true := decide_eq_true c3.2
                      have HV := hide (show als.getD j 0 = 3 by rw [hrs, if_pos c3])
                      clear c3 hrs
                      go_wp2_with fail
                      go_quiet (fail)
                      have HFq := hide (HF.out.drewN nq)
                      clear b0 b1 b2 b3 p0 p1 p2 rc rf q0
                      generalize wr.drewN nq = wq at *
                      obtain ⟨b0, b1, b2, b3⟩ := HFq.out.box.cells
                      obtain ⟨_, _, e, p0, p1, p2⟩ := HFq.out.pcs j (by rw [HNN.out]; exact hj)
                      injection e with e
                      injection e with e1 e2
                      subst e1 e2
                      have rc := HFq.out.row.cell j (by rw [HDL2.out]; exact hj)
                      have rf := HFq.out.row.free j
                      rw [← HPC.out] at p0 p1 p2
                      dsimp only at p0 p1 p2
                      generalize D.getD j 0 = dj at rc
                      go_wp2_with fail
                      go_quiet (fail)
                      replace HFq := hide (HFq.out.drewN nq)
                      clear b0 b1 b2 b3 p0 p1 p2 rc rf
                      generalize wq.drewN nq = wq2 at *
                      obtain ⟨b0, b1, b2, b3⟩ := HFq.out.box.cells
                      obtain ⟨_, _, e, p0, p1, p2⟩ := HFq.out.pcs j (by rw [HNN.out]; exact hj)
                      injection e with e
                      injection e with e1 e2
                      subst e1 e2
                      have rc := HFq.out.row.cell j (by rw [HDL2.out]; exact hj)
                      have rf := HFq.out.row.free j
                      rw [← HPC.out] at p0 p1 p2
                      dsimp only at p0 p1 p2
                      generalize D.getD j 0 = dj at rc
                      go_wp2
                      go_roundw
                      case rel => exact ⟨j, (j : Int) - 1, B + y, D.set j 3, by omega, by go_num, by go_num, hide rfl, hide (by rw [HBY.out, Int.add_comm]), hide (by have := HR.out.put HJA.out; rwa [HV.out] at this), hide (HFq.out.store HP.out (by omega) (by omega) j 3)⟩
                      case measure => simp [intOf] <;> omega
                    · have HV := hide (show als.getD j 0 = 0 by rw [hrs, if_neg c3])
                      have c3' : decide (0 < rp) = false ∨ (decide (0 < rp) = true ∧ decide (rp ≤ (n : Int) - 1 - (j : Int)) = false) := by
                        by_cases h : 0 < rp
                        · exact .inr ⟨decide_eq_true h, decide_eq_false (fun h2 => c3 ⟨h, h2⟩)⟩
                        · exact .inl (decide_eq_false h)
                      clear c3 hrs
                      rcases c3' with d5 | ⟨d5, d6⟩
                      · skip
                        go_wp2_with fail
                        go_quiet (fail)
                        have HFq := hide (HF.out.drewN nq)
                        clear b0 b1 b2 b3 p0 p1 p2 rc rf q0
                        generalize wr.drewN nq = wq at *
                        obtain ⟨b0, b1, b2, b3⟩ := HFq.out.box.cells
                        obtain ⟨_, _, e, p0, p1, p2⟩ := HFq.out.pcs j (by rw [HNN.out]; exact hj)
                        injection e with e
                        injection e with e1 e2
                        subst e1 e2
                        have rc := HFq.out.row.cell j (by rw [HDL2.out]; exact hj)
                        have rf := HFq.out.row.free j
                        rw [← HPC.out] at p0 p1 p2
                        dsimp only at p0 p1 p2
                        generalize D.getD j 0 = dj at rc
                        go_wp2_with fail
                        go_quiet (fail)
                        replace HFq := hide (HFq.out.drewN nq)
                        clear b0 b1 b2 b3 p0 p1 p2 rc rf
                        generalize wq.drewN nq = wq2 at *
                        obtain ⟨b0, b1, b2, b3⟩ := HFq.out.box.cells
                        obtain ⟨_, _, e, p0, p1, p2⟩ := HFq.out.pcs j (by rw [HNN.out]; exact hj)
                        injection e with e
                        injection e with e1 e2
                        subst e1 e2
                        have rc := HFq.out.row.cell j (by rw [HDL2.out]; exact hj)
                        have rf := HFq.out.row.free j
                        rw [← HPC.out] at p0 p1 p2
                        dsimp only at p0 p1 p2
                        generalize D.getD j 0 = dj at rc
                        go_wp2
                        go_roundw
                        case rel => exact ⟨j, (j : Int) - 1, B + y, D, by omega, by go_num, by go_num, hide rfl, hide (by rw [HBY.out, Int.add_comm]), hide (HR.out.stay HV.out), HFq⟩
                        case measure => simp [intOf] <;> omega
                      · skip
                        go_wp2_with fail
                        go_quiet (fail)
                        have HFq := hide (HF.out.drewN nq)
                        clear b0 b1 b2 b3 p0 p1 p2 rc rf q0
                        generalize wr.drewN nq = wq at *
                        obtain ⟨b0, b1, b2, b3⟩ := HFq.out.box.cells
                        obtain ⟨_, _, e, p0, p1, p2⟩ := HFq.out.pcs j (by rw [HNN.out]; exact hj)
                        injection e with e
                        injection e with e1 e2
                        subst e1 e2
                        have rc := HFq.out.row.cell j (by rw [HDL2.out]; exact hj)
                        have rf := HFq.out.row.free j
                        rw [← HPC.out] at p0 p1 p2
                        dsimp only at p0 p1 p2
                        generalize D.getD j 0 = dj at rc
                        go_wp2_with fail
                        go_quiet (fail)
                        replace HFq := hide (HFq.out.drewN nq)
                        clear b0 b1 b2 b3 p0 p1 p2 rc rf
                        generalize wq.drewN nq = wq2 at *
                        obtain ⟨b0, b1, b2, b3⟩ := HFq.out.box.cells
                        obtain ⟨_, _, e, p0, p1, p2⟩ := HFq.out.pcs j (by rw [HNN.out]; exact hj)
                        injection e with e
                        injection e with e1 e2
                        subst e1 e2
                        have rc := HFq.out.row.cell j (by rw [HDL2.out]; exact hj)
                        have rf := HFq.out.row.free j
                        rw [← HPC.out] at p0 p1 p2
                        dsimp only at p0 p1 p2
                        generalize D.getD j 0 = dj at rc
                        go_wp2
                        go_roundw
                        case rel => exact ⟨j, (j : Int) - 1, B + y, D, by omega, by go_num, by go_num, hide rfl, hide (by rw [HBY.out, Int.add_comm]), hide (HR.out.stay HV.out), HFq⟩
                        case measure => simp [intOf] <;> omega
end Go.Proofs.Ytjgdegkjkedfcaa
