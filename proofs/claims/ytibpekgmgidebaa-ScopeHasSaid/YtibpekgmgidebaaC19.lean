/- Bytes that came in. -/
import Derived.Test.YtibpekgmgidebaaC18
set_option linter.unusedSimpArgs false
set_option linter.unusedVariables false
namespace Go.Proofs.Ytibpekgmgidebaa.Sc
open Go.RowKit Go.ChangeShapes Go.WideShapes

theorem open_bytes {H : Type} {enc : TypeId × Value → H} {W : World} {v : Value} {d : DataW H} {p : List MemPlace} (h : DataW.Trod enc Try.prog W 0 (fun _ => true) true 22 v d p) (hone1 : ∃ A n c, v = .slice A n c) :
    ∃ A c l, v = .slice A l.length c ∧ Bs W A c l := by
  obtain ⟨A0, n0, c0, rfl⟩ := hone1
  obtain ⟨fuel, hf⟩ := h
  rcases open_ints Try.underlying22 Try.underlying5 (by kernel_rfl) hf with ⟨hcs, _⟩ | ⟨a, n, c, zs, hcs, _, hl, hm, hz, _, hcell, hwz⟩
  · simp [Value.cells] at hcs
    obtain ⟨rfl, rfl, rfl⟩ := hcs
    exact ⟨none, 0, [], rfl, ⟨by simp, fun h => absurd h (by simp)⟩, by simp, by omega, fun x hx => by simp at hx⟩
  · simp [Value.cells] at hcs
    obtain ⟨rfl, rfl, rfl⟩ := hcs
    rw [if_pos rfl] at hz
    have hbn : ∀ z ∈ zs, 0 ≤ z ∧ z < 256 := fun z hz => by have := bounds_u8 (hwz z hz); omega
    have hll : ((zs.take n0).map Int.toNat).length = n0 := by rw [List.length_map, List.length_take]; omega
    refine ⟨some a, c0, (zs.take n0).map Int.toNat, by rw [hll], ⟨by simp, fun h0 => ?_⟩, by rw [hll]; exact hl, by unfold maxLen at hm; omega, ?_⟩
    · rw [hll] at h0
      refine ⟨a, rfl, ?_, fun j u hu => ?_⟩
      · have := World.block_lt_of_cell? W _ (hcell 0 (by omega))
        rwa [block_of_add] at this
      · have hj : j < n0 := by
          have := (List.getElem?_eq_some_iff.1 hu).1
          rw [List.length_map, hll] at this; exact this
        have hjz : j < zs.length := by omega
        rw [hcell j hjz, ← hu]
        rw [List.getElem?_map, List.getElem?_map, List.getElem?_take, if_pos hj, List.getElem?_eq_getElem hjz, List.getD_eq_getElem?_getD, List.getElem?_eq_getElem hjz]
        have := hbn zs[j] (List.getElem_mem _)
        simp only [Option.map_some, Option.getD_some]
        rw [Int.toNat_of_nonneg this.1]
    · intro x hx
      obtain ⟨z, hz2, rfl⟩ := List.mem_map.1 hx
      have := hbn z (List.mem_of_mem_take hz2)
      omega
end Go.Proofs.Ytibpekgmgidebaa.Sc
