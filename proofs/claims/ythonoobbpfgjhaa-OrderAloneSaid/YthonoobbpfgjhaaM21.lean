/- Modules that came in, as a law's row gives them. -/
import Derived.Test.YthonoobbpfgjhaaM20
import Derived.Deep.Slices
import Derived.Deep.Fields
import Derived.ChangeSame
import Derived.SliceStrings
set_option linter.unusedSimpArgs false
set_option linter.unusedVariables false
namespace Go.Proofs.Ythonoobbpfgjhaa.Od
open Go.RowKit Go.ChangeShapes Go.WideShapes Go.Deep

section
variable {H : Type} {enc : TypeId × Value → H} {P : Program} {w : World} {base : Nat} {spare : Nat → Bool} {held : Bool}
theorem open_slice_fields {t e : TypeId} {fs : Array Field} {fuel : Nat} {cs : List Value} {x : DataW H × List MemPlace} (ht : P.underlying t = some (.slice e)) (he : P.underlying e = some (.struct fs))
    (hone : oneCellFields P fs = true) (hC : P.cellsOf e = fs.size) (h : DataW.trod enc P w base spare held fuel t cs = some x) :
    (cs = [.slice none 0 0] ∧ x = (.nil, [])) ∨
    ∃ (a : Addr) (len cap m : Nat) (D : Nat → DataW H) (Pl : Nat → List MemPlace), cs = [.slice (some a) len cap] ∧ base ≤ a.block ∧ len ≤ cap ∧ cap ≤ maxLen ∧ m = (if spare a.block then cap else len) ∧
      x = (.slice ((List.range len).map D) ((List.range (m - len)).map fun j => D (len + j)), MemPlace.row a (m * fs.size) ++ (List.range m).flatMap Pl) ∧
      ∀ i, i < m → ∃ (ys : List (DataW H × List MemPlace)) (n : Nat), D i = .agg (ys.map (·.1)) ∧ Pl i = ys.flatMap (·.2) ∧ ys.length = fs.size ∧
        ∀ (j : Nat) (f : Field), fs[j]? = some f → ∃ (v : Value) (y : DataW H × List MemPlace), w.cell? (a.add (i * fs.size + j)) = some v ∧ ys[j]? = some y ∧ DataW.trod enc P w base spare held n f.type [v] = some y := by
  rcases open_slice ht h with h0 | ⟨a, len, cap, m, n, D, Pl, hcs, hb, hl, hm, hmm, hx, hi⟩
  · exact .inl h0
  · refine .inr ⟨a, len, cap, m, D, Pl, hcs, hb, hl, hm, hmm, by rw [hC] at hx; exact hx, fun i him => ?_⟩
    obtain ⟨cs', hc, ht'⟩ := hi i him
    rw [hC] at hc
    obtain ⟨ys, n', hn', hy, hlen, hyl, hf⟩ := DataW.trod_struct he ht'
    obtain ⟨_, hcl, hat⟩ := World.cells?_some hc
    simp only [Prod.mk.injEq] at hy
    refine ⟨ys, n', hy.1, hy.2, hyl, fun j f hj => ?_⟩
    obtain ⟨ho, hk⟩ := hone_of hone j f hj
    have hjl : j < fs.size := (Array.getElem?_eq_some_iff.1 hj).1
    have hcell := hat j hjl
    have hv : cs'[j]? = some (cs'[j]'(by omega)) := List.getElem?_eq_getElem (by omega)
    have h1 := hf j f hj
    rw [ho, hk] at h1
    have hone' : (cs'.drop j).take 1 = [cs'[j]'(by omega)] := by
      rw [List.drop_eq_getElem_cons (by omega)]
      rfl
    rw [hone'] at h1
    have hys : ys[j]? = some (ys[j]'(by omega)) := List.getElem?_eq_getElem (by omega)
    refine ⟨_, _, ?_, hys, h1.trans hys⟩
    rw [← Go.Deep.add_add, hcell, hv]
end
theorem cells30 : Try.prog.cellsOf 30 = 2 := by kernel_rfl
theorem cells9 : Try.prog.cellsOf 9 = 1 := by kernel_rfl
theorem oneNeeds : ∃ fs, Try.prog.underlying 30 = some (.struct fs) ∧ oneCellFields Try.prog fs = true ∧ fs.size = 2 ∧ fs.toList.map (·.type) = [9, 25] := ⟨_, Try.underlying30, by kernel_rfl, by kernel_rfl, by kernel_rfl⟩
theorem open_nr {H : Type} {enc : TypeId × Value → H} {W : World} {v : Value} {fuel : Nat} {x : DataW H × List MemPlace} (hf : DataW.trod enc Try.prog W 0 (fun _ => true) true fuel 25 [v] = some x) :
    ∃ A c l, v = .slice A l.length c ∧ NR W A c l := by
  rcases open_strings Try.underlying25 Try.underlying9 cells9 hf with ⟨h1, h2⟩ | ⟨a, len, cap, ss, h1, _, h3, h4, h5, h6, h7, h8⟩
  · have e : v = .slice none 0 0 := by simpa using h1
    exact ⟨none, 0, [], by simpa using e, NR.nil W⟩
  · have e : v = .slice (some a) len cap := by simpa using h1
    rw [if_pos rfl] at h5
    have hl : ((ss.take len).map fun s => s.data.toList).length = len := by rw [List.length_map, List.length_take]; omega
    refine ⟨some a, cap, (ss.take len).map fun s => s.data.toList, by rw [e, hl], ⟨⟨by rw [strs_len]; omega, fun h0 => ?_⟩, by rw [hl]; exact h3, by unfold maxLen at h4; omega⟩⟩
    rw [hl] at h0
    refine ⟨a, rfl, ?_, fun j u hu => ?_⟩
    · have := World.block_lt_of_cell? W _ (h7 0 (by omega))
      rwa [block_of_add] at this
    · have hj : j < len := by have := (List.getElem?_eq_some_iff.1 hu).1; rw [strs_len, hl] at this; exact this
      rw [h7 j (by omega), ← hu]
      simp only [strs, List.map_map, List.getElem?_map, List.getElem?_take, if_pos hj, List.getElem?_eq_getElem (show j < ss.length by omega), Option.map_some, Function.comp]
      rw [List.getD_eq_getElem?_getD, List.getElem?_eq_getElem (by omega)]
      unfold S
      simp
theorem mod_at (p : Md) (r : Nat) (h : r < 2) : (modV p)[r]? = some (match r with | 0 => .string (S p.1) | _ => p.2.2) := by
  match r, h with
  | 0, _ => rfl
  | 1, _ => rfl
theorem modV_at (l : List Md) (i r : Nat) (hi : i < l.length) (hr : r < 2) : (l.flatMap modV)[i * 2 + r]? = (modV l[i])[r]? := by
  rw [← List.getElem?_drop, ← modV_drop, List.drop_eq_getElem_cons hi]
  simp only [List.flatMap_cons]
  rw [List.getElem?_append_left (by simp [modV]; omega)]
theorem open_mods {H : Type} {enc : TypeId × Value → H} {W : World} {v : Value} {d : DataW H} {p : List MemPlace} (h : DataW.Trod enc Try.prog W 0 (fun _ => true) true 22 v d p) (hone1 : ∃ A n c, v = .slice A n c) :
    ∃ A c q, v = .slice A q.length c ∧ Mods W A c q := by
  obtain ⟨A0, n0, c0, rfl⟩ := hone1
  obtain ⟨fuel, hf⟩ := h
  obtain ⟨fs, hu, hone, hsz, hty⟩ := oneNeeds
  have hcells : (Value.slice A0 n0 c0).cells.toList = [.slice A0 n0 c0] := rfl
  rcases open_slice_fields Try.underlying22 hu hone (by rw [hsz]; exact cells30) hf with ⟨h1, h2⟩ | ⟨a, len, cap, m, D, Pl, h1, _, h3, h4, h5, h6, h7⟩
  · rw [hcells] at h1
    have e : (Value.slice A0 n0 c0) = .slice none 0 0 := by simpa using h1
    exact ⟨none, 0, [], by simpa using e, ⟨⟨by simp, fun h => absurd h (by simp)⟩, by simp, by omega, fun p hp => by simp at hp⟩⟩
  · rw [hcells] at h1
    have e : (Value.slice A0 n0 c0) = .slice (some a) len cap := by simpa using h1
    rw [if_pos rfl] at h5
    subst h5
    have hex : ∀ i, ∃ q : Md, i < len → (∀ r, r < 2 → W.cell? (a.add (i * 2 + r)) = (modV q)[r]?) ∧ Needs W q := by
      intro i
      by_cases hi : i < len
      · obtain ⟨ys, n, g1, _, g3, g4⟩ := h7 i (by omega)
        rw [hsz] at g4
        have ft : ∀ j (hj : j < 2), ∃ f, fs[j]? = some f ∧ [9, 25][j]? = some f.type := by
          intro j hj
          have hj' : j < fs.size := by omega
          refine ⟨fs[j], Array.getElem?_eq_getElem hj', ?_⟩
          rw [← hty]
          simp [List.getElem?_map, hj']
        have get : ∀ j (hj : j < 2), ∃ v y t, W.cell? (a.add (i * 2 + j)) = some v ∧ ys[j]? = some y ∧ [9, 25][j]? = some t ∧ DataW.trod enc Try.prog W 0 (fun _ => true) true n t [v] = some y := by
          intro j hj
          obtain ⟨f, f1, f2⟩ := ft j hj
          obtain ⟨v, y, q1, q2, q3⟩ := g4 j f f1
          exact ⟨v, y, f.type, q1, q2, f2, q3⟩
        obtain ⟨v0, y0, t0, c0, _, e0, k0⟩ := get 0 (by omega)
        obtain ⟨v1, y1, t1, c1, _, e1, k1⟩ := get 1 (by omega)
        simp only [List.getElem?_cons_zero, List.getElem?_cons_succ, Option.some.injEq] at e0 e1
        subst e0 e1
        obtain ⟨s0, r0, _, w0⟩ := DataW.trod_string Try.underlying9 k0
        simp only [List.cons.injEq, and_true] at r0
        subst r0
        obtain ⟨A', c', l', rfl, hS⟩ := open_nr k1
        obtain ⟨m0, rfl⟩ := S_of s0
        refine ⟨(m0, l', .slice A' l'.length c'), fun _ => ⟨fun r hr => ?_, A', c', rfl, hS⟩⟩
        rw [mod_at _ _ hr]
        match r, hr with
        | 0, _ => rw [c0]; rfl
        | 1, _ => rw [c1]; rfl
      · exact ⟨([], [], .slice none 0 0), fun h => absurd h hi⟩
    obtain ⟨f, hfq⟩ : ∃ f : Nat → Md, ∀ i, i < len → (∀ r, r < 2 → W.cell? (a.add (i * 2 + r)) = (modV (f i))[r]?) ∧ Needs W (f i) :=
      ⟨fun i => Classical.choose (hex i), fun i hi => Classical.choose_spec (hex i) hi⟩
    have hll : ((List.range len).map f).length = len := by simp
    refine ⟨some a, m, (List.range len).map f, by rw [e, hll], ⟨⟨by rw [modV_len], fun h0 => ?_⟩, by rw [hll]; exact h3, by unfold maxLen at h4; omega, ?_⟩⟩
    · rw [hll] at h0
      refine ⟨a, rfl, ?_, fun j u hu => ?_⟩
      · have h00 := (hfq 0 h0).1 0 (by omega)
        rw [mod_at _ _ (by omega)] at h00
        have := World.block_lt_of_cell? W _ h00
        rwa [block_of_add] at this
      · have hj : j < len * 2 := by
          have := (List.getElem?_eq_some_iff.1 hu).1
          rw [modV_len, hll] at this; exact this
        have ej : j = j / 2 * 2 + j % 2 := by omega
        have hq : j / 2 < ((List.range len).map f).length := by rw [hll]; omega
        rw [ej, modV_at _ _ _ hq (by omega)] at hu
        rw [ej, (hfq (j / 2) (by omega)).1 (j % 2) (by omega), ← hu]
        simp
    · intro q hq
      obtain ⟨i, hi, rfl⟩ := List.mem_map.1 hq
      exact (hfq i (by simpa using hi)).2
end Go.Proofs.Ythonoobbpfgjhaa.Od
