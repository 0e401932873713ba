/- The walk of the law PlaceTells. -/
import Derived.Test.YtpomnihgimgpdaaDoorL5
import Derived.Deep.RegionHeld3
set_option linter.unusedSimpArgs false
set_option linter.unusedVariables false
namespace Go.Proofs.YtpomnihgimgpdaaDoor.Pl
open Go.RowKit
open Fl
open Num

/-- A later world than w, in which the two blocks that were made then are still there. -/
def Kept (w w' : World) : Prop := w.heap.size + 1 < w'.heap.size ∧ Below w.heap.size w w'
theorem kept_below {w w' w2 : World} (h : Kept w w') (hb : Below w'.heap.size w' w2) : Kept w w2 := by
  obtain ⟨h1, h2⟩ := h
  exact ⟨Nat.lt_of_lt_of_le h1 hb.size, h2.trans (hb.mono h2.size)⟩
theorem held_below {w w' w2 : World} {l c : Int} (h : w'.cell? ⟨w.heap.size, 0, none⟩ = some (.int .i64 l) ∧ w'.cell? ⟨w.heap.size, 1, none⟩ = some (.int .i64 c) ∧ Kept w w') (hb : Below w'.heap.size w' w2) :
    w2.cell? ⟨w.heap.size, 0, none⟩ = some (.int .i64 l) ∧ w2.cell? ⟨w.heap.size, 1, none⟩ = some (.int .i64 c) ∧ Kept w w2 := by
  obtain ⟨h1, h2, h3⟩ := h
  have h4 := h3
  obtain ⟨h5, h6⟩ := h3
  exact ⟨(hb.cell (p := ⟨w.heap.size, 0, none⟩) (by simp; omega)).trans h1, (hb.cell (p := ⟨w.heap.size, 1, none⟩) (by simp; omega)).trans h2, kept_below h4 hb⟩
theorem tabs_kept {w w' : World} (ht : Tabs w) (h : Kept w w') : Tabs w' := by
  obtain ⟨_, h⟩ := h
  exact tabs_below ht h
theorem kept_drew {w w' : World} (h : Kept w w') : Kept w w'.drew := by
  obtain ⟨h1, h2⟩ := h
  exact ⟨h1, h2.drew⟩
theorem behN_or (l : List UInt8) : ∀ p, isN (behN p l) = true ∨ behN p l = (0, 0) := by
  induction l with
  | nil => intro p; unfold behN; cases h : isN p <;> simp [h]
  | cons c l ih => intro p; unfold behN; cases h : isN p <;> simp [ih]
theorem ofN_behN (p : Nat × Nat) (l : List UInt8) : ofN ((behN p l).1 : Nat) ((behN p l).2 : Nat) = behN p l := by
  rcases behN_or l p with h | h
  · exact ofN_nat h
  · rw [h]; rfl
theorem behN_le (p : Nat × Nat) (l : List UInt8) : (behN p l).1 < 4294967296 ∧ (behN p l).2 < 4294967296 := by
  rcases behN_or l p with h | h
  · exact isN_le h
  · rw [h]; simp
theorem dig_size (n : Nat) (h : n ≤ 1073741824) : (⟨(digN n).toArray⟩ : ByteArray).size ≤ 10 := by
  show (digN n).toArray.size ≤ 10
  unfold digN
  have := dec_len n h
  split <;> simp <;> omega
theorem digits_text (L Cc : Nat) (h : isN (L, Cc) = true) : (⟨(digN L).toArray⟩ ++ ⟨#[58]⟩ ++ ⟨(digN Cc).toArray⟩ : ByteArray) = ⟨(textN (L, Cc)).toArray⟩ := by
  have bd := isN_bd h
  rw [textN_in h]
  unfold digN
  rw [if_neg (by omega), if_neg (by omega)]
  apply ByteArray.ext
  simp [ByteArray.data_append]
theorem kept_lt0 {w w' : World} (h : Kept w w') : w.heap.size < w'.heap.size := by
  obtain ⟨h, _⟩ := h; omega
theorem kept_lt1 {w w' : World} (h : Kept w w') : w.heap.size + 1 < w'.heap.size := by
  obtain ⟨h, _⟩ := h; omega
theorem kept_bel {w w' : World} {A B : Prop} (h : A ∧ B ∧ Kept w w') : Below w.heap.size w w' := by
  obtain ⟨_, _, _, h⟩ := h; exact h
theorem tabs_held {w w' : World} {A B : Prop} (ht : Tabs w) (h : A ∧ B ∧ Kept w w') : Tabs w' := tabs_kept ht h.2.2
theorem tab_held {w w' : World} {A B : Prop} (ht : Tabs w) (h : A ∧ B ∧ Kept w w') : Tab w' := tabs_tab (tabs_kept ht h.2.2)
theorem World.drew_cells {w w' : World} {l c : Int} (h0 : w'.cell? ⟨w.heap.size, 0, none⟩ = some (.int .i64 l)) (h1 : w'.cell? ⟨w.heap.size, 1, none⟩ = some (.int .i64 c)) (h : Kept w w') :
    w'.drew.cell? ⟨w.heap.size, 0, none⟩ = some (.int .i64 l) ∧ w'.drew.cell? ⟨w.heap.size, 1, none⟩ = some (.int .i64 c) ∧ Kept w w'.drew := ⟨h0, h1, kept_drew h⟩

end Go.Proofs.YtpomnihgimgpdaaDoor.Pl
