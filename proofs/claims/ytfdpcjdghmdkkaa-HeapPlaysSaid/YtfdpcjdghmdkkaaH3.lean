/- What is taken out of such a map; the laws at the walk's operations: a look-up, a delete. They speak of any program. -/
import Derived.Test.YtfdpcjdghmdkkaaH2
set_option linter.unusedSimpArgs false
set_option linter.unusedVariables false
namespace Go.Proofs.Ytfdpcjdghmdkkaa.Hp
open Go.RowKit
theorem nodup_erase {α : Type} {l : List α} (h : l.Nodup) (j : Nat) : (l.eraseIdx j).Nodup := h.sublist (List.eraseIdx_sublist l j)
theorem map_eraseIdx' {α β : Type} (g : α → β) : ∀ (l : List α) (j : Nat), (l.eraseIdx j).map g = (l.map g).eraseIdx j
  | [], _ => by simp
  | a :: l, 0 => rfl
  | a :: l, j + 1 => by simp [map_eraseIdx' g l j]
theorem erase_filter {m : Nat} : ∀ {ks : List Nat} {j : Nat}, ks.Nodup → ks[j]? = some m → ks.eraseIdx j = ks.filter (fun k => !decide (k = m))
  | [], _, _, h => by simp at h
  | k :: ks, 0, hn, h => by
    simp only [List.getElem?_cons_zero, Option.some.injEq] at h
    subst h
    rw [List.nodup_cons] at hn
    rw [List.eraseIdx_cons_zero, List.filter_cons]
    simp only [decide_true, Bool.not_true, Bool.false_eq_true, if_false]
    refine (List.filter_eq_self.2 fun x hx => ?_).symm
    have : x ≠ k := fun e => hn.1 (e ▸ hx)
    simp [this]
  | k :: ks, j + 1, hn, h => by
    rw [List.nodup_cons] at hn
    simp only [List.getElem?_cons_succ] at h
    have hk : k ≠ m := fun e => hn.1 (e ▸ List.mem_of_getElem? h)
    rw [List.eraseIdx_cons_succ, List.filter_cons, erase_filter hn.2 h]
    simp [hk]
section
variable {P : Program} {T K E : TypeId} (hT : P.underlying T = some (.map K E)) (hK : P.underlying K = some (.int .u16))
include hT hK
/-- What is taken out. -/
theorem IsM.del {w : World} {b : Nat} {ks : List Nat} {f : Nat → Value} (h : IsM w b ks f) (m : Nat) (ty : TypeId) :
    ∃ w', (Builtin.delete_ #[T, K] ty #[.map (some b), .int .u16 (m : Nat)]).run P w = .ok (.tuple #[]) w' ∧ IsM w' b (ks.filter fun k => !decide (k = m)) f ∧ w.grownBy w' (some b) := by
  have hgr : ∀ o, w.grownBy { w with heap := w.heap.setIfInBounds b o } (some b) := fun o =>
    ⟨rfl, rfl, rfl, by simp, fun i hi hne => by
      show (w.heap.setIfInBounds b o)[i]? = _
      rw [Array.getElem?_setIfInBounds, if_neg (fun e => hne (by rw [e]))]⟩
  have hlt := h.lt
  obtain ⟨es, clock, hb, h1, h2, h3, h4⟩ := h
  have hc : (Instr.checkKey false 10000 K (.int .u16 (m : Nat))).run P w = .ok () w := MapKept.run_checkKey hK (by simp [MapKept.IsKey]) false 9999
  by_cases hm : m ∈ ks
  · obtain ⟨j, e, g1, g2, g3, g4, hf⟩ := (find_es m es.toList ks f 0 h3).2 hm
    have hj : j < es.size := by simpa using (List.getElem?_eq_some_iff.1 g1).1
    refine ⟨{ w with heap := w.heap.setIfInBounds b (.map (es.eraseIdxIfInBounds j) clock) }, ?_, ?_, hgr _⟩
    · simp [Builtin.delete_, run_underlying hT, MapKept.run_getObj_map hb, hc, MapKept.run_checkKey hK (k := .int .u16 (m : Nat)) (by simp [MapKept.IsKey]), MapKept.run_findKey (l := es.toList) hK hf, MapKept.run_setObj_map _ hb, Result.andThen]
    · have he : (es.eraseIdxIfInBounds j).toList = es.toList.eraseIdx j := by
        unfold Array.eraseIdxIfInBounds
        rw [dif_pos hj, Array.toList_eraseIdx]
      refine ⟨es.eraseIdxIfInBounds j, clock, by simp [hlt], ?_, ?_, ?_, h4.sublist List.filter_sublist⟩
      · intro x hx
        rw [he] at hx
        exact h1 x ((List.eraseIdx_sublist _ _).subset hx)
      · rw [he, map_eraseIdx']
        exact nodup_erase h2 j
      · rw [he, map_eraseIdx', h3, ← map_eraseIdx', erase_filter h4 g4]
  · have hf := (find_es m es.toList ks f 0 h3).1 hm
    have e : ks.filter (fun k => !decide (k = m)) = ks := by
      rw [List.filter_eq_self]
      intro x hx
      have : x ≠ m := fun e => hm (e ▸ hx)
      simp [this]
    rw [e]
    refine ⟨{ w with heap := w.heap.setIfInBounds b (.map es clock) }, ?_, ⟨es, clock, by simp [hlt], h1, h2, h3, h4⟩, hgr _⟩
    simp [Builtin.delete_, run_underlying hT, MapKept.run_getObj_map hb, hc, MapKept.run_checkKey hK (k := .int .u16 (m : Nat)) (by simp [MapKept.IsKey]), MapKept.run_findKey (l := es.toList) hK hf, MapKept.run_setObj_map _ hb, Result.andThen]
end
section
variable {P : Program} (w : World) {ops : Array Oper} {rest : List Oper} {o : Oper} {a : Act} {Q : Exit → Act → World → Prop}
theorem wpList_del (hg : o.guard = none) (m x : Operand) (t k : TypeId) (hop : o.op = Op.call { callee := Callee.builtin Builtin.delete, args := #[m, x], argTypes := #[t, k] }) (e : TypeId) (ht : P.underlying t = some (.map k e)) (hk : P.underlying k = some (.int .u16))
    (b : Nat) (ks : List Nat) (f : Nat → Value) (hm : a.eval m = .map (some b)) (h : IsM w b ks f) (n : Nat) (hx : a.eval x = .int .u16 (n : Nat))
    (hK : ∀ w', IsM w' b (ks.filter fun k => !decide (k = n)) f → w.grownBy w' (some b) → wpList P ops Q rest (a.put o.dst (.tuple #[])) w') :
    wpList P ops Q (o :: rest) a w := by
  refine wpList_plain hg fun K' hK' => ?_
  obtain ⟨w', hrun, r1, r2⟩ := h.del ht hk n o.type
  unfold Oper.wp
  simp [execOp, hop, resolve, invoke, builtin, hm, hx, hrun, Result.andThen]
  exact hK' _ _ (hK w' r1 r2)
end
end Go.Proofs.Ytfdpcjdghmdkkaa.Hp
