/- Who is reached, as a map; sorted. -/
import Derived.Test.YthonoobbpfgjhaaM6
import Derived.Test.YthonoobbpfgjhaaShelf
import Derived.Laws.EntriesVeiled
set_option linter.unusedSimpArgs false
set_option linter.unusedVariables false
namespace Go.Proofs.Ythonoobbpfgjhaa.Od
open Go.RowKit
def ReachR (w : World) (q : List Md) (m : Nm) (e : Ending) (w' : World) : Prop := ∃ (bs : Nat) (s : List Nm), e = .returned (.map (some bs)) ∧ Below w.heap.size w w' ∧ w.heap.size ≤ bs ∧ SM w' bs s ∧ s.Nodup ∧ ∀ x, x ∈ s ↔ Rch (nl q) m x
theorem cell_new (w : World) (v : Value) (t : TypeId) : (w.alloc (.cells #[v] t)).cell? ⟨w.heap.size, 0, none⟩ = some v := by
  unfold World.cell?
  simp only [heap_alloc_new]
  rfl
theorem RE.start {w : World} {q : List Md} {ba : Nat} (hm : NM w ba q) (tA tS tF : TypeId) :
    RE w ((((w.alloc (.cells #[.map (some ba)] tA)).alloc (.map #[] 0)).alloc (.cells #[.map (some (w.heap.size + 1))] tS)).alloc (.cells #[.func (.func 25) #[] #[.pointer (some ⟨w.heap.size, 0, none⟩), .pointer (some ⟨w.heap.size + 1 + 1, 0, none⟩), .pointer (some ⟨w.heap.size + 1 + 1 + 1, 0, none⟩)]] tF))
      w.heap.size ba (w.heap.size + 1 + 1) (w.heap.size + 1) (w.heap.size + 1 + 1 + 1) q [] := by
  have hlt := hm.lt
  generalize hw1 : w.alloc (.cells #[.map (some ba)] tA) = w1
  have s1 : w1.heap.size = w.heap.size + 1 := by subst hw1; simp
  generalize hw2 : w1.alloc (.map #[] 0) = w2
  have s2 : w2.heap.size = w.heap.size + 1 + 1 := by subst hw2; simp [s1]
  generalize hw3 : w2.alloc (.cells #[.map (some (w.heap.size + 1))] tS) = w3
  have s3 : w3.heap.size = w.heap.size + 1 + 1 + 1 := by subst hw3; simp [s2]
  have b1 : Below w.heap.size w w1 := hw1 ▸ (Below.refl w.heap.size w).alloc (Nat.le_refl _) _
  have b2 : Below w.heap.size w w2 := hw2 ▸ b1.alloc (by omega) _
  have b3 : Below w.heap.size w w3 := hw3 ▸ b2.alloc (by omega) _
  have c1 : w1.cell? ⟨w.heap.size, 0, none⟩ = some (.map (some ba)) := hw1 ▸ cell_new w _ _
  have c2 : w2.cell? ⟨w.heap.size, 0, none⟩ = some (.map (some ba)) := by subst hw2; rw [World.cell?_alloc_lt w1 _ _ (by show w.heap.size < _; omega)]; exact c1
  have m2 : SM w2 (w.heap.size + 1) [] := by
    have := IsM.made w1 (seenV [])
    rw [s1] at this
    exact hw2 ▸ this
  have c3 : w3.cell? ⟨w.heap.size, 0, none⟩ = some (.map (some ba)) := by subst hw3; rw [World.cell?_alloc_lt w2 _ _ (by show w.heap.size < _; omega)]; exact c2
  have d3 : w3.cell? ⟨w.heap.size + 1 + 1, 0, none⟩ = some (.map (some (w.heap.size + 1))) := by
    have := cell_new w2 (.map (some (w.heap.size + 1))) tS
    rw [s2] at this
    exact hw3 ▸ this
  have m3 : SM w3 (w.heap.size + 1) [] := hw3 ▸ IsM.alloc m2 _
  refine ⟨b3.alloc (by omega) _, ?_, ?_, ?_, ?_, IsM.alloc m3 _, ⟨by omega, by omega, by omega, by omega, by omega⟩⟩
  · rw [World.cell?_alloc_lt w3 _ _ (by show w.heap.size < _; omega)]; exact c3
  · rw [World.cell?_alloc_lt w3 _ _ (by show w.heap.size + 1 + 1 < _; omega)]; exact d3
  · have := cell_new w3 (.func (.func 25) #[] #[.pointer (some ⟨w.heap.size, 0, none⟩), .pointer (some ⟨w.heap.size + 1 + 1, 0, none⟩), .pointer (some ⟨w.heap.size + 1 + 1 + 1, 0, none⟩)]) tF
    rw [s3] at this
    exact this
  · exact hm.kept ((b3.alloc (by omega) _).block ba hlt)
set_option maxRecDepth 100000 in
set_option maxHeartbeats 1600000 in
theorem reach_any {w : World} {q : List Md} (hq : ∀ x ∈ q, Needs w x) {ba : Nat} (hm : NM w ba q) (m : Nm) :
    Calls Try.prog 19 #[.map (some ba), .string (S m)] w (ReachR w q m) := by
  have hmm := @run_makeMap Try.prog
  have HC := from_any hq ((allN (nl q)).length + 1) m [] _ (RE.start hm 40 39 58) (Nat.lt_succ_of_le (List.length_filter_le ..))
  have HA := Lib.hid (from_all (L := nl q) (m := m) (Nat.lt_succ_self _))
  generalize fromP (nl q) ((allN (nl q)).length + 1) m [] = s at *
  clear hq hm
  go_enter Try.func19, Try.ntmps19
  go_wp2_with fail
  refine HC.mono ?_
  rintro e w3 ⟨rfl, h3⟩
  have hcS := h3.cS
  have H3 := Lib.hid h3
  clear h3 HC
  go_wp2
  go_ret
  exact ⟨w.heap.size + 1, s, rfl, H3.out.base, by omega, H3.out.sm, HA.out.1, HA.out.2⟩
end Go.Proofs.Ythonoobbpfgjhaa.Od
