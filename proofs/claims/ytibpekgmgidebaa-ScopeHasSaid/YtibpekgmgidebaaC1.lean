/- Maps with texts as keys, as a walk sees them: which keys, which values; the laws of their operations. They speak of any program. -/
import Derived.Test.YtibpekgmgidebaaBase
import Derived.MapKept
import Derived.Maps.RangeRun
set_option linter.unusedSimpArgs false
set_option linter.unusedVariables false
namespace Go.Proofs.Ytibpekgmgidebaa.Od
open Go.RowKit
open Go.ChangeMaps (setBlock)

abbrev Nm := List UInt8
theorem nd_inj {o : List Nm} (h : o.Nodup) {i j : Nat} {m : Nm} (hi : o[i]? = some m) (hj : o[j]? = some m) : i = j := by
  obtain ⟨l1, e1⟩ := List.getElem?_eq_some_iff.1 hi
  obtain ⟨l2, e2⟩ := List.getElem?_eq_some_iff.1 hj
  have hp := List.pairwise_iff_getElem.1 h
  rcases Nat.lt_trichotomy i j with q | q | q
  · exact absurd (e1.trans e2.symm) (hp i j l1 l2 q)
  · exact q
  · exact absurd (e2.trans e1.symm) (hp j i l2 l1 q)
def S (m : Nm) : ByteArray := ⟨m.toArray⟩
theorem S_inj {a b : Nm} : S a = S b ↔ a = b := by
  unfold S
  constructor
  · intro h; injection h with h; simpa using congrArg Array.toList h
  · intro h; rw [h]
theorem S_of (s : ByteArray) : ∃ m : Nm, s = S m := ⟨s.data.toList, by unfold S; simp⟩
theorem S_size (m : Nm) : (S m).size = m.length := by unfold S; simp [ByteArray.size]
theorem S_beq (a b : Nm) : (S a == S b) = decide (a = b) := by
  rw [Bool.eq_iff_iff, decide_eq_true_eq, MapKept.bytes_beq, S_inj]
/-- Block b is a map: its keys, in the order in which they came, and what it holds at each. -/
def IsM (w : World) (b : Nat) (ks : List Nm) (f : Nm → Value) : Prop :=
  ∃ es clock, w.heap[b]? = some (.map es clock) ∧ (∀ x ∈ es.toList, x.born < clock) ∧ (es.toList.map (·.born)).Nodup ∧ es.toList.map (fun e => (e.key, e.val)) = ks.map (fun k => (Value.string (S k), f k)) ∧ ks.Nodup
theorem IsM.lt {w : World} {b : Nat} {ks : List Nm} {f : Nm → Value} (h : IsM w b ks f) : b < w.heap.size := by
  obtain ⟨es, clock, hb, _⟩ := h
  exact (Array.getElem?_eq_some_iff.1 hb).1
theorem IsM.nodup {w : World} {b : Nat} {ks : List Nm} {f : Nm → Value} (h : IsM w b ks f) : ks.Nodup := by
  obtain ⟨es, clock, _, _, _, _, h⟩ := h
  exact h
theorem IsM.kept {w w' : World} {b : Nat} {ks : List Nm} {f : Nm → Value} (h : IsM w b ks f) (hk : w'.heap[b]? = w.heap[b]?) : IsM w' b ks f := by
  obtain ⟨es, clock, hb, r⟩ := h
  exact ⟨es, clock, hk.trans hb, r⟩
theorem IsM.grown {w w' : World} {b : Nat} {ks : List Nm} {f : Nm → Value} {row : Option Nat} (h : IsM w b ks f) (hg : w.grownBy w' row) (hne : some b ≠ row) : IsM w' b ks f := h.kept (hg.block b h.lt hne)
theorem IsM.alloc {w : World} {b : Nat} {ks : List Nm} {f : Nm → Value} (h : IsM w b ks f) (o : Obj) : IsM (w.alloc o) b ks f := h.kept (heap_alloc_old w o h.lt)
theorem IsM.drew {w : World} {b : Nat} {ks : List Nm} {f : Nm → Value} (h : IsM w b ks f) : IsM w.drew b ks f := h
theorem IsM.setCell {w : World} {b : Nat} {ks : List Nm} {f : Nm → Value} (h : IsM w b ks f) {a : Addr} (ha : b ≠ a.block) (u : Value) : IsM (w.setCell a u) b ks f := by
  refine h.kept ?_
  unfold World.setCell
  simp [Array.getElem?_modify, Ne.symm ha]
theorem IsM.made (w : World) (f : Nm → Value) : IsM (w.alloc (.map #[] 0)) w.heap.size [] f :=
  ⟨#[], 0, heap_alloc_new w _, by simp, by simp, by simp, .nil⟩
theorem IsM.congr {w : World} {b : Nat} {ks : List Nm} {f g : Nm → Value} (h : IsM w b ks f) (hfg : ∀ k ∈ ks, f k = g k) : IsM w b ks g := by
  obtain ⟨es, clock, hb, h1, h2, h3, h4⟩ := h
  exact ⟨es, clock, hb, h1, h2, h3.trans (List.map_congr_left fun k hk => by rw [hfg k hk]), h4⟩
theorem find_es (m : Nm) : ∀ (es : List MapEntry) (ks : List Nm) (f : Nm → Value) (i : Nat), es.map (fun e => (e.key, e.val)) = ks.map (fun k => (Value.string (S k), f k)) →
    (m ∉ ks → Instr.findNow .string (.string (S m)) es i = some none) ∧ (m ∈ ks → ∃ j e, es[j]? = some e ∧ e.key = .string (S m) ∧ e.val = f m ∧ ks[j]? = some m ∧ Instr.findNow .string (.string (S m)) es i = some (some (i + j, f m)))
  | [], [], _, _, _ => ⟨fun _ => rfl, fun h => by cases h⟩
  | [], _ :: _, _, _, h => by simp at h
  | _ :: _, [], _, _, h => by simp at h
  | e :: es, k :: ks, f, i, h => by
    simp only [List.map_cons, List.cons.injEq, Prod.mk.injEq] at h
    obtain ⟨⟨h1, h2⟩, h3⟩ := h
    have ih := find_es m es ks f (i + 1) h3
    have e1 : Instr.findNow .string (.string (S m)) (e :: es) i = if m = k then some (some (i, e.val)) else Instr.findNow .string (.string (S m)) es (i + 1) := by
      simp only [Instr.findNow, h1, Instr.sameNow, S_beq]
      by_cases hm : m = k <;> simp [hm]
    rw [e1]
    by_cases hm : m = k
    · rw [if_pos hm]
      subst hm
      exact ⟨fun h => absurd (List.mem_cons_self ..) h, fun _ => ⟨0, e, rfl, h1, h2, rfl, by rw [h2]; rfl⟩⟩
    · rw [if_neg hm]
      refine ⟨fun h => ih.1 (fun h' => h (List.mem_cons_of_mem _ h')), fun h => ?_⟩
      obtain ⟨j, e', g1, g2, g3, g4, g5⟩ := ih.2 ((List.mem_cons.1 h).resolve_left hm)
      exact ⟨j + 1, e', by simpa using g1, g2, g3, by simpa using g4, by rw [g5]; congr 3; omega⟩
section
variable {P : Program} {T K E : TypeId} (hT : P.underlying T = some (.map K E)) (hK : P.underlying K = some .string)
include hT hK
theorem IsM.look_in {w : World} {b : Nat} {ks : List Nm} {f : Nm → Value} (h : IsM w b ks f) {m : Nm} (hm : m ∈ ks) (ok : Bool) :
    (Instr.lookup T (.map (some b)) (.string (S m)) ok).run P w = .ok (if ok then .tuple #[f m, .bool true] else f m) w := by
  obtain ⟨es, clock, hb, _, _, h3, _⟩ := h
  obtain ⟨j, e, _, _, _, _, hf⟩ := (find_es m es.toList ks f 0 h3).2 hm
  have hc : ∀ x, (Instr.checkKey x 10000 K (.string (S m))).run P w = .ok () w := fun x => MapKept.run_checkKey hK (by simp [MapKept.IsKey]) x 9999
  simp [Instr.lookup, run_underlying hT, MapKept.run_getObj_map hb, hc, MapKept.run_findKey (l := es.toList) hK hf, Result.andThen]
theorem IsM.look_out {w : World} {b : Nat} {ks : List Nm} {f : Nm → Value} (h : IsM w b ks f) {m : Nm} (hm : m ∉ ks) {z : Value} (hz : (zeroValue E).run P w = .ok z w) (ok : Bool) :
    (Instr.lookup T (.map (some b)) (.string (S m)) ok).run P w = .ok (if ok then .tuple #[z, .bool false] else z) w := by
  obtain ⟨es, clock, hb, _, _, h3, _⟩ := h
  have hf := (find_es m es.toList ks f 0 h3).1 hm
  have hc : ∀ x, (Instr.checkKey x 10000 K (.string (S m))).run P w = .ok () w := fun x => MapKept.run_checkKey hK (by simp [MapKept.IsKey]) x 9999
  simp [Instr.lookup, run_underlying hT, MapKept.run_getObj_map hb, hc, MapKept.run_findKey (l := es.toList) hK hf, hz, Result.andThen]
/-- Where what is not there is given as the zero. -/
theorem IsM.look {w : World} {b : Nat} {ks : List Nm} {f : Nm → Value} (h : IsM w b ks f) (m : Nm) {z : Value} (hz : (zeroValue E).run P w = .ok z w) (h0 : m ∉ ks → f m = z) :
    (Instr.lookup T (.map (some b)) (.string (S m)) false).run P w = .ok (f m) w := by
  by_cases hm : m ∈ ks
  · simpa using h.look_in hT hK hm false
  · rw [h0 hm]; simpa using h.look_out hT hK hm hz false
def updV (f : Nm → Value) (m : Nm) (v : Value) : Nm → Value := fun n => if n = m then v else f n
omit hT hK in
theorem set_upd (ks : List Nm) (f : Nm → Value) (m : Nm) (v : Value) (hn : ks.Nodup) (j : Nat) (hj : ks[j]? = some m) :
    (ks.map (fun k => (Value.string (S k), f k))).set j (.string (S m), v) = ks.map (fun k => (Value.string (S k), updV f m v k)) := by
  apply List.ext_getElem?
  intro i
  rw [List.getElem?_set, List.getElem?_map]
  by_cases hij : j = i
  · subst hij
    have hlt : j < ks.length := (List.getElem?_eq_some_iff.1 hj).1
    rw [if_pos rfl, List.getElem?_map, hj]
    simp [updV, hlt]
  · rw [if_neg hij, List.getElem?_map]
    cases hk : ks[i]? with
    | none => rfl
    | some k =>
      have hne : k ≠ m := fun e => by
        subst e
        exact hij (nd_inj hn hj hk)
      simp [updV, hne]
/-- A store. -/
theorem IsM.put {w : World} {b : Nat} {ks : List Nm} {f : Nm → Value} (h : IsM w b ks f) (m : Nm) (v : Value) :
    ∃ w', (Instr.mapUpdate T (.map (some b)) (.string (S m)) v).run P w = .ok () w' ∧ IsM w' b (if m ∈ ks then ks else ks ++ [m]) (updV f m v) ∧ w.grownBy w' (some b) := by
  have hgr : ∀ o, w.grownBy { w with heap := w.heap.setIfInBounds b o } (some b) := fun o =>
    ⟨rfl, rfl, rfl, by simp, fun i hi hne => by
      show (w.heap.setIfInBounds b o)[i]? = _
      rw [Array.getElem?_setIfInBounds, if_neg (fun e => hne (by rw [e]))]⟩
  have hlt := h.lt
  obtain ⟨es, clock, hb, h1, h2, h3, h4⟩ := h
  have hc : (Instr.checkKey false 10000 K (.string (S m))).run P w = .ok () w := MapKept.run_checkKey hK (by simp [MapKept.IsKey]) false 9999
  by_cases hm : m ∈ ks
  · rw [if_pos hm]
    obtain ⟨j, e, g1, g2, g3, g4, hf⟩ := (find_es m es.toList ks f 0 h3).2 hm
    have hj : es[j]? = some e := by simpa using g1
    refine ⟨{ w with heap := w.heap.setIfInBounds b (.map (es.modify j fun e => { e with key := .string (S m), val := v }) clock) }, ?_, ?_, hgr _⟩
    · simp [Instr.mapUpdate, run_underlying hT, MapKept.run_getObj_map hb, hc, MapKept.run_findKey (l := es.toList) hK hf, hj, g2, MapKept.run_keyThatStays (d := .string) (k := .string (S m)) (by simp [MapKept.IsKey]), MapKept.run_setObj_map _ hb, Result.andThen]
    · have hmod : ∀ (g : MapEntry → MapEntry), (es.modify j g).toList = es.toList.modify j g := fun g => by simp
      have hset : es.toList.modify j (fun e => { e with key := .string (S m), val := v }) = es.toList.set j { e with key := .string (S m), val := v } := by
        apply List.ext_getElem?
        intro i
        rw [List.getElem?_modify, List.getElem?_set]
        by_cases hij : j = i
        · subst hij
          have hl : j < es.toList.length := (List.getElem?_eq_some_iff.1 g1).1
          rw [g1]
          simp at hl
          simp [hl]
        · simp [hij]
      refine ⟨es.modify j fun e => { e with key := .string (S m), val := v }, clock, by simp [hlt], ?_, ?_, ?_, h4⟩
      · intro x hx
        rw [hmod, hset] at hx
        rcases List.mem_or_eq_of_mem_set hx with hx | hx
        · exact h1 x hx
        · subst hx; exact h1 e (List.mem_of_getElem? g1)
      · rw [hmod, hset, List.map_set]
        have : (es.toList.map (·.born)).set j e.born = es.toList.map (·.born) := by
          apply List.ext_getElem?
          intro i
          rw [List.getElem?_set]
          by_cases hij : j = i
          · subst hij
            have hl : j < es.toList.length := (List.getElem?_eq_some_iff.1 g1).1
            rw [if_pos rfl, List.getElem?_map, g1]
            simp at hl
            simp [hl]
          · rw [if_neg hij]
        show ((es.toList.map (·.born)).set j e.born).Nodup
        rw [this]
        exact h2
      · rw [hmod, hset, List.map_set, h3]
        exact set_upd ks f m v h4 j g4
  · rw [if_neg hm]
    have hf := (find_es m es.toList ks f 0 h3).1 hm
    refine ⟨{ w with heap := w.heap.setIfInBounds b (.map (es.push { key := .string (S m), val := v, born := clock }) (clock + 1)) }, ?_, ?_, hgr _⟩
    · simp [Instr.mapUpdate, run_underlying hT, MapKept.run_getObj_map hb, hc, MapKept.run_findKey (l := es.toList) hK hf, MapKept.run_setObj_map _ hb, Result.andThen]
    · refine ⟨es.push { key := .string (S m), val := v, born := clock }, clock + 1, by simp [hlt], ?_, ?_, ?_, ?_⟩
      · intro x hx
        simp only [Array.toList_push, List.mem_append, List.mem_singleton] at hx
        rcases hx with hx | rfl
        · have := h1 x hx; omega
        · exact Nat.lt_succ_self _
      · simp only [Array.toList_push, List.map_append, List.map_cons, List.map_nil]
        rw [List.nodup_append]
        refine ⟨h2, by simp, fun a ha b hb' => ?_⟩
        simp only [List.mem_singleton] at hb'
        subst hb'
        obtain ⟨x, hx, rfl⟩ := List.mem_map.1 ha
        exact Nat.ne_of_lt (h1 x hx)
      · simp only [Array.toList_push, List.map_append, List.map_cons, List.map_nil, h3]
        congr 1
        · exact List.map_congr_left fun k hk => by
            have hne : k ≠ m := fun e => hm (e ▸ hk)
            unfold updV
            rw [if_neg hne]
        · simp [updV]
      · rw [List.nodup_append]
        exact ⟨h4, by simp, fun a ha b hb' => by rw [List.mem_singleton] at hb'; subst hb'; exact fun e => hm (e ▸ ha)⟩
end
end Go.Proofs.Ytibpekgmgidebaa.Od
