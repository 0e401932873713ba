/- Pieces that came in, as a law's card gives them. -/
import Derived.Test.YtdpdoigmjnkmdaaDoorAgain
import Derived.Test.YtdpdoigmjnkmdaaDoorT33
import Derived.Deep.Slices
import Derived.Deep.Fields
import Derived.ChangeSame
set_option linter.unusedSimpArgs false
set_option linter.unusedVariables false
namespace Go.Proofs.YtdpdoigmjnkmdaaDoor.Tr
open Go.RowKit Go.ChangeShapes Go.WideShapes Go.Deep

section
variable {H : Type} {enc : TypeId × Value → H} {P : Program} {w : World} {base : Nat} {spare : Nat → Bool} {held : Bool}
theorem open_slice_fields {t e : TypeId} {fs : Array Field} {fuel : Nat} {cs : List Value} {x : DataW H × List MemPlace} (ht : P.underlying t = some (.slice e)) (he : P.underlying e = some (.struct fs))
    (hone : oneCellFields P fs = true) (hC : P.cellsOf e = fs.size) (h : DataW.trod enc P w base spare held fuel t cs = some x) :
    (cs = [.slice none 0 0] ∧ x = (.nil, [])) ∨
    ∃ (a : Addr) (len cap m : Nat) (D : Nat → DataW H) (Pl : Nat → List MemPlace), cs = [.slice (some a) len cap] ∧ base ≤ a.block ∧ len ≤ cap ∧ cap ≤ maxLen ∧ m = (if spare a.block then cap else len) ∧
      x = (.slice ((List.range len).map D) ((List.range (m - len)).map fun j => D (len + j)), MemPlace.row a (m * fs.size) ++ (List.range m).flatMap Pl) ∧
      ∀ i, i < m → ∃ (ys : List (DataW H × List MemPlace)) (n : Nat), D i = .agg (ys.map (·.1)) ∧ Pl i = ys.flatMap (·.2) ∧ ys.length = fs.size ∧
        ∀ (j : Nat) (f : Field), fs[j]? = some f → ∃ (v : Value) (y : DataW H × List MemPlace), w.cell? (a.add (i * fs.size + j)) = some v ∧ ys[j]? = some y ∧ DataW.trod enc P w base spare held n f.type [v] = some y := by
  rcases open_slice ht h with h0 | ⟨a, len, cap, m, n, D, Pl, hcs, hb, hl, hm, hmm, hx, hi⟩
  · exact .inl h0
  · refine .inr ⟨a, len, cap, m, D, Pl, hcs, hb, hl, hm, hmm, by rw [hC] at hx; exact hx, fun i him => ?_⟩
    obtain ⟨cs', hc, ht'⟩ := hi i him
    rw [hC] at hc
    obtain ⟨ys, n', hn', hy, hlen, hyl, hf⟩ := DataW.trod_struct he ht'
    obtain ⟨_, hcl, hat⟩ := World.cells?_some hc
    simp only [Prod.mk.injEq] at hy
    refine ⟨ys, n', hy.1, hy.2, hyl, fun j f hj => ?_⟩
    obtain ⟨ho, hk⟩ := hone_of hone j f hj
    have hjl : j < fs.size := (Array.getElem?_eq_some_iff.1 hj).1
    have hcell := hat j hjl
    have hv : cs'[j]? = some (cs'[j]'(by omega)) := List.getElem?_eq_getElem (by omega)
    have h1 := hf j f hj
    rw [ho, hk] at h1
    have hone' : (cs'.drop j).take 1 = [cs'[j]'(by omega)] := by
      rw [List.drop_eq_getElem_cons (by omega)]
      rfl
    rw [hone'] at h1
    have hys : ys[j]? = some (ys[j]'(by omega)) := List.getElem?_eq_getElem (by omega)
    refine ⟨_, _, ?_, hys, h1.trans hys⟩
    rw [← Go.Deep.add_add, hcell, hv]
end
theorem cells51 : Tryd.prog.cellsOf 51 = 6 := by kernel_rfl
theorem one51 : ∃ fs, Tryd.prog.underlying 51 = some (.struct fs) ∧ oneCellFields Tryd.prog fs = true ∧ fs.size = 6 ∧ fs.toList.map (·.type) = [5, 5, 5, 9, 2, 5] := ⟨_, Tryd.underlying51, by kernel_rfl, by kernel_rfl, by kernel_rfl⟩
theorem wf_u8 {n : Int} (h : (Lit.int .u8 n).wf = true) : 0 ≤ n ∧ n < 256 := by
  have : 0 ≤ n ∧ n ≤ 255 := by simpa [Lit.wf, IntKind.min, IntKind.max, IntKind.signed, IntKind.bits] using h
  omega
theorem wf_i64r {n : Int} (h : (Lit.int .i64 n).wf = true) : inR n := by
  unfold inR
  simpa [Lit.wf, IntKind.min, IntKind.max, IntKind.signed, IntKind.bits] using h
theorem vals_at (p : Pc) (r : Nat) (h : r < 6) : (p.vals)[r]? = some (match r with | 0 => .int .u8 p.kind | 1 => .int .u8 p.line | 2 => .int .u8 p.col | 3 => .string p.name | 4 => .int .i64 p.n | _ => .int .u8 p.kids) := by
  match r, h with
  | 0, _ => rfl
  | 1, _ => rfl
  | 2, _ => rfl
  | 3, _ => rfl
  | 4, _ => rfl
  | 5, _ => rfl
theorem valsP_at (l : List Pc) (i r : Nat) (hi : i < l.length) (hr : r < 6) : (valsP l)[i * 6 + r]? = (l[i].vals)[r]? := by
  rw [← List.getElem?_drop, valsP_drop, List.drop_eq_getElem_cons hi, valsP_cons, List.getElem?_append_left (by simp [Pc.vals]; omega)]
theorem open_pcs {H : Type} {enc : TypeId × Value → H} {W : World} {v : Value} {d : DataW H} {p : List MemPlace} (h : DataW.Trod enc Tryd.prog W 0 (fun _ => true) true 22 v d p) (hw : ∀ n ∈ d.weights Tryd.prog 22, n ≤ reachBytes) (hone1 : ∃ A n c, v = .slice A n c) :
    ∃ A c l, v = .slice A l.length c ∧ Pcs W A c l := by
  obtain ⟨A0, n0, c0, rfl⟩ := hone1
  obtain ⟨fuel, hf⟩ := h
  obtain ⟨fs, hu, hone, hsz, hty⟩ := one51
  have hcells : (Value.slice A0 n0 c0).cells.toList = [.slice A0 n0 c0] := rfl
  rcases open_slice_fields Tryd.underlying22 hu hone (by rw [hsz]; exact cells51) hf with ⟨h1, h2⟩ | ⟨a, len, cap, m, D, Pl, h1, _, h3, h4, h5, h6, h7⟩
  · rw [hcells] at h1
    have e : (Value.slice A0 n0 c0) = .slice none 0 0 := by simpa using h1
    exact ⟨none, 0, [], by simpa using e, ⟨⟨by simp [valsP], fun h => absurd h (by simp)⟩, fun p hp => by simp at hp, fun p hp => by simp at hp, fun p hp => by simp at hp, Nat.le_refl _, by simp⟩⟩
  · rw [hcells] at h1
    have e : (Value.slice A0 n0 c0) = .slice (some a) len cap := by simpa using h1
    rw [if_pos rfl] at h5
    subst h5
    have hd : d = .slice ((List.range len).map D) ((List.range (m - len)).map fun j => D (len + j)) := by
      have := congrArg Prod.fst h6; simpa using this
    have hex : ∀ i, ∃ q : Pc, i < len → (∀ r, r < 6 → W.cell? (a.add (i * 6 + r)) = (q.vals)[r]?) ∧ q.ok ∧ inR q.n ∧ q.name.size ≤ 9007199254740992 := by
      intro i
      by_cases hi : i < len
      · obtain ⟨ys, n, g1, _, g3, g4⟩ := h7 i (by omega)
        rw [hsz] at g4
        have ft : ∀ j (hj : j < 6), ∃ f, fs[j]? = some f ∧ [5, 5, 5, 9, 2, 5][j]? = some f.type := by
          intro j hj
          have hj' : j < fs.size := by omega
          refine ⟨fs[j], Array.getElem?_eq_getElem hj', ?_⟩
          rw [← hty]
          simp [List.getElem?_map, hj']
        have get : ∀ j (hj : j < 6), ∃ v y t, W.cell? (a.add (i * 6 + j)) = some v ∧ ys[j]? = some y ∧ [5, 5, 5, 9, 2, 5][j]? = some t ∧ DataW.trod enc Tryd.prog W 0 (fun _ => true) true n t [v] = some y := by
          intro j hj
          obtain ⟨f, f1, f2⟩ := ft j hj
          obtain ⟨v, y, q1, q2, q3⟩ := g4 j f f1
          exact ⟨v, y, f.type, q1, q2, f2, q3⟩
        obtain ⟨v0, y0, t0, c0, _, e0, k0⟩ := get 0 (by omega)
        obtain ⟨v1, y1, t1, c1, _, e1, k1⟩ := get 1 (by omega)
        obtain ⟨v2, y2, t2, c2, _, e2, k2⟩ := get 2 (by omega)
        obtain ⟨v3, y3, t3, c3, b3, e3, k3⟩ := get 3 (by omega)
        obtain ⟨v4, y4, t4, c4, _, e4, k4⟩ := get 4 (by omega)
        obtain ⟨v5, y5, t5, c5, _, e5, k5⟩ := get 5 (by omega)
        simp only [List.getElem?_cons_zero, List.getElem?_cons_succ, Option.some.injEq] at e0 e1 e2 e3 e4 e5
        subst e0 e1 e2 e3 e4 e5
        obtain ⟨n0, r0, _, w0⟩ := DataW.trod_int Tryd.underlying5 k0
        obtain ⟨n1, r1, _, w1⟩ := DataW.trod_int Tryd.underlying5 k1
        obtain ⟨n2, r2, _, w2⟩ := DataW.trod_int Tryd.underlying5 k2
        obtain ⟨s3, r3, z3, w3⟩ := DataW.trod_string Tryd.underlying9 k3
        obtain ⟨n4, r4, _, w4⟩ := DataW.trod_int Tryd.underlying2 k4
        obtain ⟨n5, r5, _, w5⟩ := DataW.trod_int Tryd.underlying5 k5
        simp only [List.cons.injEq, and_true] at r0 r1 r2 r3 r4 r5
        subst r0 r1 r2 r3 r4 r5
        have u0 := wf_u8 w0
        have u1 := wf_u8 w1
        have u2 := wf_u8 w2
        have u5 := wf_u8 w5
        have hsw : s3.size ≤ reachBytes := by
          have hmem : s3.data.toList.length ∈ d.weights Tryd.prog 22 := by
            rw [hd]
            simp only [DataW.weights, Tryd.underlying22, List.mem_cons, List.mem_append]
            refine .inr (.inl (weightsAll_mem (d := D i) (List.mem_map.2 ⟨i, by simpa using hi, rfl⟩) _ ?_))
            rw [g1]
            simp only [DataW.weights, hu]
            rw [hty]
            refine DataW.weights_mem_each (j := 3) (t := 9) (d := y3.1) rfl (by rw [List.getElem?_map, b3]; rfl) _ ?_
            rw [z3]
            simp [DataW.weights]
          have := hw _ hmem
          simpa using this
        refine ⟨⟨n0.toNat, n1.toNat, n2.toNat, s3, n4, n5.toNat⟩, fun _ => ⟨fun r hr => ?_, ⟨by simp; omega, by simp; omega, by simp; omega, by simp; omega⟩, wf_i64r w4, by show s3.size ≤ _; have : reachBytes = 140737488351232 := rfl; omega⟩⟩
        rw [vals_at _ _ hr]
        match r, hr with
        | 0, _ => rw [c0]; simp; omega
        | 1, _ => rw [c1]; simp; omega
        | 2, _ => rw [c2]; simp; omega
        | 3, _ => rw [c3]; rfl
        | 4, _ => rw [c4]; rfl
        | 5, _ => rw [c5]; simp; omega
      · exact ⟨⟨0, 0, 0, ⟨#[]⟩, 0, 0⟩, fun h => absurd h hi⟩
    obtain ⟨f, hfq⟩ : ∃ f : Nat → Pc, ∀ i, i < len → (∀ r, r < 6 → W.cell? (a.add (i * 6 + r)) = ((f i).vals)[r]?) ∧ (f i).ok ∧ inR (f i).n ∧ (f i).name.size ≤ 9007199254740992 :=
      ⟨fun i => Classical.choose (hex i), fun i hi => Classical.choose_spec (hex i) hi⟩
    have hll : ((List.range len).map f).length = len := by simp
    refine ⟨some a, m, (List.range len).map f, by rw [e, hll], ⟨⟨by rw [valsP_len], fun h0 => ?_⟩, ?_, ?_, ?_, by rw [hll]; exact h3, by unfold maxLen at h4; omega⟩⟩
    · rw [hll] at h0
      refine ⟨a, rfl, ?_, fun j u hu => ?_⟩
      · have h00 := (hfq 0 h0).1 0 (by omega)
        rw [vals_at _ _ (by omega)] at h00
        have := World.block_lt_of_cell? W _ h00
        rwa [block_of_add] at this
      · have hj : j < len * 6 := by
          have := (List.getElem?_eq_some_iff.1 hu).1
          rw [valsP_len, hll] at this; exact this
        have ej : j = j / 6 * 6 + j % 6 := by omega
        have hq : j / 6 < ((List.range len).map f).length := by rw [hll]; omega
        rw [ej, valsP_at _ _ _ hq (by omega)] at hu
        rw [ej, (hfq (j / 6) (by omega)).1 (j % 6) (by omega), ← hu]
        simp
    all_goals
      intro q hq
      obtain ⟨i, hi, rfl⟩ := List.mem_map.1 hq
      have := hfq i (by simpa using hi)
      first | exact this.2.1 | exact this.2.2.1 | exact this.2.2.2
end Go.Proofs.YtdpdoigmjnkmdaaDoor.Tr
