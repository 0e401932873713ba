/- A row of words (uint16) that is sorted in place; cmp.Less; insertionSortOrdered. -/
import Derived.Test.YtfdpcjdghmdkkaaH7
import Derived.Sort.WalkA
import Derived.CellFam
set_option linter.unusedSimpArgs false
set_option linter.unusedVariables false
namespace Go.Proofs.Ytfdpcjdghmdkkaa.Hp
open Go.RowKit Go.Sort
def ltU (x y : Nat) : Bool := decide (x < y)
theorem swoU : SWO ltU where
  irrefl x := by simp [ltU]
  trans x y z h1 h2 := by simp [ltU] at *; omega
  ntrans x y z h1 h2 := by simp [ltU] at *; omega
/-- Block g holds the row d; all else that lay in w0 is as it was. -/
structure SU (w0 : World) (g cap : Nat) (d : Array Nat) (w : World) : Prop where
  os : w.os = w0.os
  tape : w.tape = w0.tape
  output : w.output = w0.output
  size : w0.heap.size ≤ w.heap.size
  block : ∀ k, k < w0.heap.size → k ≠ g → w.heap[k]? = w0.heap[k]?
  lt : g < w0.heap.size
  row : ∃ cur, w.heap[g]? = some (.cells cur 23 (0, 0)) ∧ cur.size = cap ∧ d.size ≤ cap ∧ ∀ i, i < d.size → cur[i]? = some (.int .u16 (d[i]! : Nat))
section
variable {w0 w : World} {g cap : Nat} {d : Array Nat}
theorem SU.cell (h : SU w0 g cap d w) {i : Nat} (hi : i < d.size) : w.cell? ⟨g, i, none⟩ = some (.int .u16 (d[i]! : Nat)) := by
  obtain ⟨cur, h1, h2, h3, h4⟩ := h.row
  simp only [World.cell?, h1, Option.bind_some]
  exact h4 i hi
theorem SU.frozen (h : SU w0 g cap d w) (i : Nat) : w.frozen? ⟨g, i, none⟩ = false := by
  obtain ⟨cur, h1, _⟩ := h.row
  simp [World.frozen?, h1]
theorem SU.drewN (h : SU w0 g cap d w) (n : Nat) : SU w0 g cap d (w.drewN n) := ⟨h.os, h.tape, h.output, h.size, h.block, h.lt, h.row⟩
theorem SU.drew (h : SU w0 g cap d w) : SU w0 g cap d w.drew := ⟨h.os, h.tape, h.output, h.size, h.block, h.lt, h.row⟩
theorem SU.glt (h : SU w0 g cap d w) : g < w.heap.size := Nat.lt_of_lt_of_le h.lt h.size
theorem SU.alloc (h : SU w0 g cap d w) (o : Obj) : SU w0 g cap d (w.alloc o) := by
  obtain ⟨cur, h1, h2⟩ := h.row
  exact ⟨h.os, h.tape, h.output, by have := h.size; simp; omega, fun k hk hg => (heap_alloc_old w o (Nat.lt_of_lt_of_le hk h.size)).trans (h.block k hk hg), h.lt, cur, (heap_alloc_old w o h.glt).trans h1, h2⟩
theorem SU.other (h : SU w0 g cap d w) {k i : Nat} (hk : w0.heap.size ≤ k) (v : Value) : SU w0 g cap d (w.setCell ⟨k, i, none⟩ v) := by
  obtain ⟨cur, h1, h2⟩ := h.row
  have hl := h.lt
  exact ⟨h.os, h.tape, h.output, Nat.le_trans h.size (KeepsWalks.setCell w _ v).size, fun j hj hg => (Below.heap_setCell _ _ _ j (by simp; omega)).trans (h.block j hj hg), h.lt, cur, (Below.heap_setCell _ _ _ g (by simp; omega)).trans h1, h2⟩
theorem SU.set (h : SU w0 g cap d w) {i x : Nat} (hi : i < d.size) : SU w0 g cap (d.setIfInBounds i x) (w.setCell ⟨g, i, none⟩ (.int .u16 (x : Nat))) := by
  obtain ⟨cur, h1, h2, h3, h4⟩ := h.row
  refine ⟨h.os, h.tape, h.output, Nat.le_trans h.size (KeepsWalks.setCell w _ _).size, fun j hj hg => (Below.heap_setCell _ _ _ j hg).trans (h.block j hj hg), h.lt, cur.setIfInBounds i (.int .u16 (x : Nat)), ?_, by simp [h2], by simp [h3], ?_⟩
  · have hs : ∀ v, (w.setCell ⟨g, i, none⟩ v).heap[g]? = some (.cells (cur.setIfInBounds i v) 23 (0, 0)) := fun v => by
      unfold World.setCell
      simp only [Array.getElem?_modify, if_true, h1, Option.map_some]
      rfl
    exact hs _
  · intro j hj
    have hj' : j < d.size := by simpa using hj
    rw [Array.getElem?_setIfInBounds]
    by_cases e : i = j
    · subst e
      rw [if_pos rfl, if_pos (by omega), getElem!_set_same d i x hi]
    · rw [if_neg e, getElem!_set_other d i j x (fun q => e q.symm)]
      exact h4 j hj'
theorem SU.swap (h : SU w0 g cap d w) {i j : Nat} (hi : i < d.size) (hj : j < d.size) : SU w0 g cap (swp d i j) ((w.setCell ⟨g, i, none⟩ (.int .u16 (d[j]! : Nat))).setCell ⟨g, j, none⟩ (.int .u16 (d[i]! : Nat))) := by
  have := (h.set (x := d[j]!) hi).set (i := j) (x := d[i]!) (by simpa using hj)
  exact this
theorem SU.start (w : World) {g cap : Nat} {d : Array Nat} (h : ∃ cur, w.heap[g]? = some (.cells cur 23 (0, 0)) ∧ cur.size = cap ∧ d.size ≤ cap ∧ ∀ i, i < d.size → cur[i]? = some (.int .u16 (d[i]! : Nat))) : SU w g cap d w := by
  obtain ⟨cur, h1, h2⟩ := h
  exact ⟨rfl, rfl, rfl, Nat.le_refl _, fun _ _ _ => rfl, (Array.getElem?_eq_some_iff.1 h1).1, cur, h1, h2⟩
end
set_option maxRecDepth 100000 in
theorem nan_any (x : Int) (w : World) : Calls Try.prog 57 #[.int .u16 x] w fun e w' => e = .returned (.bool false) ∧ w' = w := by
  go_enter Try.func57, Try.ntmps57
  go_wp2
  go_ret
  exact ⟨by simp, rfl⟩
set_option maxRecDepth 100000 in
theorem less_any (x y : Nat) (w : World) : Calls Try.prog 45 #[.int .u16 (x : Nat), .int .u16 (y : Nat)] w fun e w' => e = .returned (.bool (ltU x y)) ∧ w' = w := by
  have hl : decide ((x : Int) < (y : Int)) = ltU x y := by
    unfold ltU
    by_cases h : x < y
    · simp [h]
    · simp [h]
  go_enter Try.func45, Try.ntmps45
  go_wp2_with (go_at_call 57; refine (nan_any _ _).mono ?_; rintro e w' ⟨rfl, rfl⟩)
  go_ret
  exact ⟨by rw [← hl]; simp, rfl⟩
set_option maxRecDepth 100000 in
set_option maxHeartbeats 3200000 in
theorem insSort_any {w0 w : World} {g cap a b : Nat} {d : Array Nat} (h : SU w0 g cap d w) (hab : a ≤ b) (hb : b ≤ d.size) (hsz : d.size < 4611686018427387904) :
    Calls Try.prog 39 #[.slice (some ⟨g, 0, none⟩) d.size cap, .int .i64 a, .int .i64 b] w fun e w' => e = .returned (.tuple #[]) ∧ SU w0 g cap (insertionSort ltU d a b) w' := by
  go_enter Try.func39, Try.ntmps39
  have H := Lib.hid h
  clear h
  go_wp2
  go_loopg [6] (b - a) (fun gh vi wr => ∃ (i : Nat) (dk : Array Nat), vi = .int .i64 (i : Nat) ∧ a < i ∧ i ≤ b + 1 ∧ b + 1 - i ≤ gh ∧ dk.size = d.size ∧ Hid (SU w0 g cap dk wr) ∧ Hid (insOuter ltU a b i dk = insOuter ltU a b (a + 1) d))
  case atStart => exact ⟨a + 1, d, by go_num, by omega, by omega, by omega, rfl, H, Lib.hid rfl⟩
  case round =>
    obtain ⟨i, dk, rfl, hai, hib, hgh, hsk, hS, hO⟩ := hrel
    by_cases hlt : i < b
    · go_wp2
      go_loopg [7] i (fun gh2 vj wr2 => ∃ (j : Nat) (dj : Array Nat), vj = .int .i64 (j : Nat) ∧ a ≤ j ∧ j ≤ i ∧ j ≤ gh2 ∧ dj.size = d.size ∧ Hid (SU w0 g cap dj wr2) ∧ Hid (insInner ltU a j dj = insInner ltU a i dk))
      case atStart => exact ⟨i, dk, rfl, by omega, Nat.le_refl _, Nat.le_refl _, hsk, hS, Lib.hid rfl⟩
      case round =>
        obtain ⟨j, dj, rfl, haj, hji, hgj, hsj, hS2, hI⟩ := hrel
        have out : (j ≤ a ∨ ltU dj[j]! dj[j - 1]! = false) → insOuter ltU a b (i + 1) dj = insOuter ltU a b (a + 1) d := fun hs => by
          rw [← hO.out, insOuter_go _ _ _ _ _ hlt, ← hI.out, insInner_stop _ _ _ _ hs]
        have OUT := Lib.hid out
        clear out
        by_cases hja : a < j
        · obtain ⟨q, rfl⟩ : ∃ q, j = q + 1 := ⟨j - 1, by omega⟩
          have hc1 := hS2.out.cell (i := q + 1) (by omega)
          have hc0 := hS2.out.cell (i := q) (by omega)
          have hf1 := hS2.out.frozen (q + 1)
          have hf0 := hS2.out.frozen q
          obtain ⟨x, hx⟩ : ∃ x, x = dj[q + 1]! := ⟨_, rfl⟩
          obtain ⟨y, hy⟩ : ∃ y, y = dj[q]! := ⟨_, rfl⟩
          have HX := Lib.hid hx
          have HY := Lib.hid hy
          rw [← hx] at hc1
          rw [← hy] at hc0
          clear hx hy
          have hg1 : decide ((q : Int) + 1 > (a : Int)) = true := decide_eq_true (by omega)
          have hg2 : decide ((a : Int) < (q : Int) + 1) = true := decide_eq_true (by omega)
          cases hl : ltU x y
          · have HE := Lib.hid (OUT.out (.inr (by rw [← HX.out, Nat.add_sub_cancel, ← HY.out]; exact hl)))
            go_wp2
            go_quiet (first | (go_at_call 45; refine Calls.quiet_of_same (less_any x y _)))
            go_wp2
            go_roundg (b - i)
            case rel => exact ⟨i + 1, dj, by go_num, by omega, by omega, by omega, hsj, Lib.hid (hS2.out.drewN _), HE⟩
            case measure => omega
          · have HE := Lib.hid (show insInner ltU a q (swp dj (q + 1) q) = insInner ltU a i dk from by
              rw [← hI.out, insInner_go ltU a (q + 1) dj (by omega) (by rw [← HX.out, Nat.add_sub_cancel, ← HY.out]; exact hl)]
              simp)
            go_wp2
            go_quiet (first | (go_at_call 45; refine Calls.quiet_of_same (less_any x y _)))
            go_wp2
            go_region
            all_goals
              go_wp2
              go_roundg q
              case rel =>
                refine ⟨q, swp dj (q + 1) q, by go_num, by omega, by omega, by omega, by rw [size_swp]; exact hsj, Lib.hid ?_, HE⟩
                have := ((hS2.out.drewN nq).drew).swap (i := q + 1) (j := q) (by omega) (by omega)
                rw [← HX.out, ← HY.out] at this
                exact this
              case measure => omega
        · have hg1 : decide ((j : Int) > (a : Int)) = false := decide_eq_false (by omega)
          have hg2 : decide ((a : Int) < (j : Int)) = false := decide_eq_false (by omega)
          have HE := Lib.hid (OUT.out (.inl (by omega)))
          go_wp2
          go_quiet (fail)
          go_wp2
          go_roundg (b - i)
          case rel => exact ⟨i + 1, dj, by go_num, by omega, by omega, by omega, hsj, Lib.hid (hS2.out.drewN _), HE⟩
          case measure => omega
    · have hnl : decide ((i : Int) < (b : Int)) = false := decide_eq_false (by omega)
      go_wp2
      go_end0
      refine ⟨rfl, ?_⟩
      unfold insertionSort
      rw [← hO.out, insOuter_stop _ _ _ _ _ hlt]
      exact hS.out
end Go.Proofs.Ytfdpcjdghmdkkaa.Hp
