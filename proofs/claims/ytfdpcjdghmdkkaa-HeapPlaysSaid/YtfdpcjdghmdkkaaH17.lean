/- A row of calls that came in, as a law's row gives it. -/
import Derived.Test.YtfdpcjdghmdkkaaH16
import Derived.Deep.Slices
import Derived.Deep.Fields
import Derived.ChangeSame
set_option linter.unusedSimpArgs false
set_option linter.unusedVariables false
namespace Go.Proofs.Ytfdpcjdghmdkkaa.Hp
open Go.RowKit Go.ChangeShapes Go.WideShapes Go.Deep

section
variable {H : Type} {enc : TypeId × Value → H} {P : Program} {w : World} {base : Nat} {spare : Nat → Bool} {held : Bool}
theorem open_slice_fields {t e : TypeId} {fs : Array Field} {fuel : Nat} {cs : List Value} {x : DataW H × List MemPlace} (ht : P.underlying t = some (.slice e)) (he : P.underlying e = some (.struct fs))
    (hone : oneCellFields P fs = true) (hC : P.cellsOf e = fs.size) (h : DataW.trod enc P w base spare held fuel t cs = some x) :
    (cs = [.slice none 0 0] ∧ x = (.nil, [])) ∨
    ∃ (a : Addr) (len cap m : Nat) (D : Nat → DataW H) (Pl : Nat → List MemPlace), cs = [.slice (some a) len cap] ∧ base ≤ a.block ∧ len ≤ cap ∧ cap ≤ maxLen ∧ m = (if spare a.block then cap else len) ∧
      x = (.slice ((List.range len).map D) ((List.range (m - len)).map fun j => D (len + j)), MemPlace.row a (m * fs.size) ++ (List.range m).flatMap Pl) ∧
      ∀ i, i < m → ∃ (ys : List (DataW H × List MemPlace)) (n : Nat), D i = .agg (ys.map (·.1)) ∧ Pl i = ys.flatMap (·.2) ∧ ys.length = fs.size ∧
        ∀ (j : Nat) (f : Field), fs[j]? = some f → ∃ (v : Value) (y : DataW H × List MemPlace), w.cell? (a.add (i * fs.size + j)) = some v ∧ ys[j]? = some y ∧ DataW.trod enc P w base spare held n f.type [v] = some y := by
  rcases open_slice ht h with h0 | ⟨a, len, cap, m, n, D, Pl, hcs, hb, hl, hm, hmm, hx, hi⟩
  · exact .inl h0
  · refine .inr ⟨a, len, cap, m, D, Pl, hcs, hb, hl, hm, hmm, by rw [hC] at hx; exact hx, fun i him => ?_⟩
    obtain ⟨cs', hc, ht'⟩ := hi i him
    rw [hC] at hc
    obtain ⟨ys, n', hn', hy, hlen, hyl, hf⟩ := DataW.trod_struct he ht'
    obtain ⟨_, hcl, hat⟩ := World.cells?_some hc
    simp only [Prod.mk.injEq] at hy
    refine ⟨ys, n', hy.1, hy.2, hyl, fun j f hj => ?_⟩
    obtain ⟨ho, hk⟩ := hone_of hone j f hj
    have hjl : j < fs.size := (Array.getElem?_eq_some_iff.1 hj).1
    have hcell := hat j hjl
    have hv : cs'[j]? = some (cs'[j]'(by omega)) := List.getElem?_eq_getElem (by omega)
    have h1 := hf j f hj
    rw [ho, hk] at h1
    have hone' : (cs'.drop j).take 1 = [cs'[j]'(by omega)] := by
      rw [List.drop_eq_getElem_cons (by omega)]
      rfl
    rw [hone'] at h1
    have hys : ys[j]? = some (ys[j]'(by omega)) := List.getElem?_eq_getElem (by omega)
    refine ⟨_, _, ?_, hys, h1.trans hys⟩
    rw [← Go.Deep.add_add, hcell, hv]
end
abbrev Cl := Nat × Int × Nat
def callV (p : Cl) : List Value := [.int .u8 (p.1 : Nat), .int .i64 p.2.1, .int .u16 (p.2.2 : Nat)]
def callsV (l : List Cl) : List Value := l.flatMap callV
theorem callsV_len (l : List Cl) : (callsV l).length = l.length * 3 := by
  induction l with
  | nil => rfl
  | cons s l ih => simp only [callsV, List.flatMap_cons, List.length_append, List.length_cons] at ih ⊢; rw [ih, show (callV s).length = 3 from rfl]; omega
theorem callsV_drop (l : List Cl) (k : Nat) : callsV (l.drop k) = (callsV l).drop (k * 3) := by
  induction l generalizing k with
  | nil => simp [callsV]
  | cons s l ih =>
    cases k with
    | zero => simp
    | succ k =>
      rw [List.drop_succ_cons, ih k]
      simp only [callsV, List.flatMap_cons]
      rw [show (k + 1) * 3 = k * 3 + 1 + 1 + 1 from by omega]
      rfl
/-- The calls that came in. -/
structure Cs (w : World) (A : Option Addr) (c : Nat) (l : List Cl) : Prop where
  reads : Reads w w.heap.size 3 A l.length (callsV l)
  cap : l.length ≤ c
  max : c ≤ 9223372036854775807
  fit : ∀ p ∈ l, p.1 < 256 ∧ (-9223372036854775808 ≤ p.2.1 ∧ p.2.1 ≤ 9223372036854775807) ∧ p.2.2 < 65536
theorem call_at (p : Cl) (r : Nat) (h : r < 3) : (callV p)[r]? = some (match r with | 0 => .int .u8 (p.1 : Nat) | 1 => .int .i64 p.2.1 | _ => .int .u16 (p.2.2 : Nat)) := by
  match r, h with
  | 0, _ => rfl
  | 1, _ => rfl
  | 2, _ => rfl
theorem callsV_at (l : List Cl) (i r : Nat) (hi : i < l.length) (hr : r < 3) : (callsV l)[i * 3 + r]? = (callV l[i])[r]? := by
  rw [← List.getElem?_drop, ← callsV_drop, List.drop_eq_getElem_cons hi]
  simp only [callsV, List.flatMap_cons]
  rw [List.getElem?_append_left (by simp [callV]; omega)]
/-- One of them, where the walk stands. -/
theorem Cs.spot {w wr : World} {A : Option Addr} {c : Nat} {l : List Cl} (h : Cs w A c l) (hb : Below w.heap.size w wr) {i : Nat} (hi : i < l.length) : ∃ b off, A = some ⟨b, off, none⟩ ∧ b < w.heap.size ∧
    wr.cell? ⟨b, off + i * 3, none⟩ = some (.int .u8 (l[i].1 : Nat)) ∧ wr.cell? ⟨b, off + i * 3 + 1, none⟩ = some (.int .i64 l[i].2.1) ∧ wr.cell? ⟨b, off + i * 3 + 2, none⟩ = some (.int .u16 (l[i].2.2 : Nat)) := by
  obtain ⟨⟨b, off, sp⟩, e, hbl, hc⟩ := (h.reads.below hb).2 (by omega)
  have hs : sp = none := by
    have h0 := hc (0 * 3 + 0) _ ((callsV_at l 0 0 (by omega) (by omega)).trans (call_at _ 0 (by omega)))
    have := World.cell?_spot h0
    simpa [Addr.add] using this
  subst hs
  have ad : ∀ r, (⟨b, off, none⟩ : Addr).add r = ⟨b, off + r, none⟩ := fun r => by unfold Addr.add; split <;> simp_all
  refine ⟨b, off, e, hbl, ?_, ?_, ?_⟩
  · have := hc (i * 3 + 0) _ ((callsV_at l i 0 hi (by omega)).trans (call_at _ 0 (by omega)))
    rwa [ad] at this
  · have := hc (i * 3 + 1) _ ((callsV_at l i 1 hi (by omega)).trans (call_at _ 1 (by omega)))
    rwa [ad] at this
  · have := hc (i * 3 + 2) _ ((callsV_at l i 2 hi (by omega)).trans (call_at _ 2 (by omega)))
    rwa [ad] at this
theorem cells33 : Try.prog.cellsOf 33 = 3 := by kernel_rfl
theorem oneCall : ∃ fs, Try.prog.underlying 33 = some (.struct fs) ∧ oneCellFields Try.prog fs = true ∧ fs.size = 3 ∧ fs.toList.map (·.type) = [5, 3, 23] := ⟨_, Try.underlying33, by kernel_rfl, by kernel_rfl, by kernel_rfl⟩
theorem open_calls {H : Type} {enc : TypeId × Value → H} {W : World} {v : Value} {d : DataW H} {p : List MemPlace} (h : DataW.Trod enc Try.prog W 0 (fun _ => true) true 22 v d p) (hone1 : ∃ A n c, v = .slice A n c) :
    ∃ A c l, v = .slice A l.length c ∧ Cs W A c l := by
  obtain ⟨A0, n0, c0, rfl⟩ := hone1
  obtain ⟨fuel, hf⟩ := h
  obtain ⟨fs, hu, hone, hsz, hty⟩ := oneCall
  have hcells : (Value.slice A0 n0 c0).cells.toList = [.slice A0 n0 c0] := rfl
  rcases open_slice_fields Try.underlying22 hu hone (by rw [hsz]; exact cells33) hf with ⟨h1, h2⟩ | ⟨a, len, cap, m, D, Pl, h1, _, h3, h4, h5, h6, h7⟩
  · rw [hcells] at h1
    have e : (Value.slice A0 n0 c0) = .slice none 0 0 := by simpa using h1
    exact ⟨none, 0, [], by simpa using e, ⟨⟨by simp [callsV], fun h => absurd h (by simp)⟩, by simp, by omega, fun p hp => by simp at hp⟩⟩
  · rw [hcells] at h1
    have e : (Value.slice A0 n0 c0) = .slice (some a) len cap := by simpa using h1
    rw [if_pos rfl] at h5
    subst h5
    have hex : ∀ i, ∃ q : Cl, i < len → (∀ r, r < 3 → W.cell? (a.add (i * 3 + r)) = (callV q)[r]?) ∧ q.1 < 256 ∧ (-9223372036854775808 ≤ q.2.1 ∧ q.2.1 ≤ 9223372036854775807) ∧ q.2.2 < 65536 := by
      intro i
      by_cases hi : i < len
      · obtain ⟨ys, n, g1, _, g3, g4⟩ := h7 i (by omega)
        rw [hsz] at g4
        have ft : ∀ j (hj : j < 3), ∃ f, fs[j]? = some f ∧ [5, 3, 23][j]? = some f.type := by
          intro j hj
          have hj' : j < fs.size := by omega
          refine ⟨fs[j], Array.getElem?_eq_getElem hj', ?_⟩
          rw [← hty]
          simp [List.getElem?_map, hj']
        have get : ∀ j (hj : j < 3), ∃ v y t, W.cell? (a.add (i * 3 + j)) = some v ∧ ys[j]? = some y ∧ [5, 3, 23][j]? = some t ∧ DataW.trod enc Try.prog W 0 (fun _ => true) true n t [v] = some y := by
          intro j hj
          obtain ⟨f, f1, f2⟩ := ft j hj
          obtain ⟨v, y, q1, q2, q3⟩ := g4 j f f1
          exact ⟨v, y, f.type, q1, q2, f2, q3⟩
        obtain ⟨v0, y0, t0, c0, _, e0, k0⟩ := get 0 (by omega)
        obtain ⟨v1, y1, t1, c1, _, e1, k1⟩ := get 1 (by omega)
        obtain ⟨v2, y2, t2, c2, _, e2, k2⟩ := get 2 (by omega)
        simp only [List.getElem?_cons_zero, List.getElem?_cons_succ, Option.some.injEq] at e0 e1 e2
        subst e0 e1 e2
        obtain ⟨n0, r0, _, w0⟩ := DataW.trod_int Try.underlying5 k0
        obtain ⟨n1, r1, _, w1⟩ := DataW.trod_int Try.underlying3 k1
        obtain ⟨n2, r2, _, w2⟩ := DataW.trod_int Try.underlying23 k2
        replace r0 := (List.cons.inj r0).1
        replace r1 := (List.cons.inj r1).1
        replace r2 := (List.cons.inj r2).1
        subst r0 r1 r2
        have u0 := bounds_u8 w0
        have u1 := bounds_i64 w1
        have u2 := bounds_u16 w2
        refine ⟨(n0.toNat, n1, n2.toNat), fun _ => ⟨fun r hr => ?_, by simp only; omega, by simp only; omega, by simp only; omega⟩⟩
        rw [call_at _ _ hr]
        match r, hr with
        | 0, _ => rw [c0]; simp; omega
        | 1, _ => exact c1
        | 2, _ => rw [c2]; simp; omega
      · exact ⟨(0, 0, 0), fun h => absurd h hi⟩
    obtain ⟨f, hfq⟩ : ∃ f : Nat → Cl, ∀ i, i < len → (∀ r, r < 3 → W.cell? (a.add (i * 3 + r)) = (callV (f i))[r]?) ∧ (f i).1 < 256 ∧ (-9223372036854775808 ≤ (f i).2.1 ∧ (f i).2.1 ≤ 9223372036854775807) ∧ (f i).2.2 < 65536 :=
      ⟨fun i => Classical.choose (hex i), fun i hi => Classical.choose_spec (hex i) hi⟩
    have hll : ((List.range len).map f).length = len := by simp
    refine ⟨some a, m, (List.range len).map f, by rw [e, hll], ⟨⟨by rw [callsV_len], fun h0 => ?_⟩, by rw [hll]; exact h3, by unfold maxLen at h4; omega, ?_⟩⟩
    · rw [hll] at h0
      refine ⟨a, rfl, ?_, fun j u hu => ?_⟩
      · have h00 := (hfq 0 h0).1 0 (by omega)
        rw [call_at _ _ (by omega)] at h00
        have := World.block_lt_of_cell? W _ h00
        rwa [block_of_add] at this
      · have hj : j < len * 3 := by
          have := (List.getElem?_eq_some_iff.1 hu).1
          rw [callsV_len, hll] at this; exact this
        have ej : j = j / 3 * 3 + j % 3 := by omega
        have hq : j / 3 < ((List.range len).map f).length := by rw [hll]; omega
        rw [ej, callsV_at _ _ _ hq (by omega)] at hu
        rw [ej, (hfq (j / 3) (by omega)).1 (j % 3) (by omega), ← hu]
        simp
    · intro q hq
      obtain ⟨i, hi, rfl⟩ := List.mem_map.1 hq
      exact (hfq i (by simpa using hi)).2
end Go.Proofs.Ytfdpcjdghmdkkaa.Hp
