/- A row of truths that came in, as a law's card gives it. -/
import Derived.Test.YtdpdoigmjnkmdaaDoorT40
import Derived.Test.YtdpdoigmjnkmdaaDoorT38
set_option linter.unusedSimpArgs false
set_option linter.unusedVariables false
namespace Go.Proofs.YtdpdoigmjnkmdaaDoor.Tr
open Go.RowKit Go.ChangeShapes Go.WideShapes Go.Deep

theorem cells4 : Tryd.prog.cellsOf 4 = 1 := by kernel_rfl
/-- A slice of truths, as it lies. -/
def Bls (w : World) (A : Option Addr) (c : Nat) (bs : List Bool) : Prop := bs.length ≤ 9223372036854775807 ∧ Reads w w.heap.size 1 A bs.length (bs.map Value.bool)
theorem open_bls {H : Type} {enc : TypeId × Value → H} {W : World} {v : Value} {d : DataW H} {p : List MemPlace} (h : DataW.Trod enc Tryd.prog W 0 (fun _ => true) true 41 v d p) (hw : ∀ n ∈ d.weights Tryd.prog 41, n ≤ reachBytes) (hone1 : ∃ A n c, v = .slice A n c) :
    ∃ A c l, v = .slice A l.length c ∧ Bls W A c l := by
  obtain ⟨A0, n0, c0, rfl⟩ := hone1
  obtain ⟨fuel, hf⟩ := h
  have hcells : (Value.slice A0 n0 c0).cells.toList = [.slice A0 n0 c0] := rfl
  rcases open_slice1 Tryd.underlying41 cells4 hf with ⟨h1, h2⟩ | ⟨a, len, cap, m, n, V, D, Pl, h1, _, h3, h4, h5, h6, h7⟩
  · rw [hcells] at h1
    have e : (Value.slice A0 n0 c0) = .slice none 0 0 := by simpa using h1
    exact ⟨none, 0, [], by simpa using e, ⟨by simp, ⟨by simp, fun h => absurd h (by simp)⟩⟩⟩
  · rw [hcells] at h1
    have e : (Value.slice A0 n0 c0) = .slice (some a) len cap := by simpa using h1
    rw [if_pos rfl] at h5
    subst h5
    have hex : ∀ i, ∃ q : Bool, i < len → W.cell? (a.add i) = some (.bool q) := by
      intro i
      by_cases hi : i < len
      · obtain ⟨c1, k1⟩ := h7 i (by omega)
        obtain ⟨q, r1, _⟩ := DataW.trod_bool Tryd.underlying4 k1
        simp only [List.cons.injEq, and_true] at r1
        exact ⟨q, fun _ => by rw [c1, r1]⟩
      · exact ⟨false, fun h => absurd h hi⟩
    obtain ⟨f, hfq⟩ : ∃ f : Nat → Bool, ∀ i, i < len → W.cell? (a.add i) = some (.bool (f i)) :=
      ⟨fun i => Classical.choose (hex i), fun i hi => Classical.choose_spec (hex i) hi⟩
    have hll : ((List.range len).map f).length = len := by simp
    refine ⟨some a, m, (List.range len).map f, by rw [e, hll], ⟨by unfold maxLen at h4; omega, ⟨by simp, fun h0 => ?_⟩⟩⟩
    rw [hll] at h0
    refine ⟨a, rfl, ?_, fun j u hu => ?_⟩
    · have := World.block_lt_of_cell? W _ (hfq 0 h0)
      rwa [block_of_add] at this
    · have hj : j < len := by
        have := (List.getElem?_eq_some_iff.1 hu).1
        simpa using this
      rw [hfq j hj, ← hu]
      simp [hj]
theorem keeps_card (l : List Pc) (A : Option Addr) (c : Nat) (bs : List Bool) (Ab : Option Addr) (cb : Nat) (w : World) (hE : EnvW w) (hl : Pcs w A c l) (hb : Bls w Ab cb bs) :
    Calls Tryd.prog 6 #[.slice A l.length c, .slice Ab bs.length cb] w fun e w' => e = .returned (.bool true) ∧ Below w.heap.size w w' := keeps_law l A c bs Ab cb w hE hl hb.1 hb.2
end Go.Proofs.YtdpdoigmjnkmdaaDoor.Tr
