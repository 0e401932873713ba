/- Maps that a text makes: each entry laid, and what a look-up finds. -/
import Derived.Test.YtecmjhohniipoaaE9
import Derived.MapKept
set_option linter.unusedSimpArgs false
set_option linter.unusedVariables false
namespace Go.Proofs.Ytecmjhohniipoaa.Ex
open Go.RowKit

/-- The entries, from the i-th on. -/
def esF : Nat → List (Value × Value) → List MapEntry
  | _, [] => []
  | i, (k, v) :: r => { key := k, val := v, born := i } :: esF (i + 1) r
/-- A map with these entries, as a text's inserts leave it. -/
def mapO (l : List (Value × Value)) : Obj := .map (esF 0 l).toArray l.length
theorem esF_snoc (l : List (Value × Value)) (k v : Value) (i : Nat) : esF i (l ++ [(k, v)]) = esF i l ++ [{ key := k, val := v, born := i + l.length }] := by
  induction l generalizing i with
  | nil => rfl
  | cons a l ih => obtain ⟨a1, a2⟩ := a; simp only [List.cons_append, esF, ih, List.length_cons]; rw [show i + 1 + l.length = i + (l.length + 1) from by omega]
section
variable {P : Program} {T K E : TypeId} {d : TypeDesc} (hT : P.underlying T = some (.map K E)) (hK : P.underlying K = some d)
include hT hK
theorem run_ins (l : List (Value × Value)) (k v : Value) (hk : MapKept.IsKey d k) (hf : Instr.findNow d k (esF 0 l) 0 = some none) (W : World) (m : Nat) (hm : W.heap.size = m) :
    (Instr.mapUpdate T (.map (some m)) k v).run P (W.alloc (mapO l)) = .ok () (W.alloc (mapO (l ++ [(k, v)]))) := by
  subst hm
  have hb : (W.alloc (mapO l)).heap[W.heap.size]? = some (.map (esF 0 l).toArray l.length) := heap_alloc_new W _
  have hc : ∀ e, (Instr.checkKey e 10000 K k).run P (W.alloc (mapO l)) = .ok () (W.alloc (mapO l)) := fun e => MapKept.run_checkKey hK hk e 9999
  have e1 : (mapO (l ++ [(k, v)])) = .map (esF 0 l ++ [({ key := k, val := v, born := l.length } : MapEntry)]).toArray (l.length + 1) := by
    unfold mapO
    rw [esF_snoc]
    simp
  rw [e1]
  simp [Instr.mapUpdate, run_underlying hT, MapKept.run_getObj_map hb, hc, MapKept.run_findKey (l := esF 0 l) hK hf, MapKept.run_setObj_map _ hb, Result.andThen]
  unfold World.alloc
  simp [Array.setIfInBounds, Array.set_push]
theorem run_look (l : List (Value × Value)) (k : Value) (hk : MapKept.IsKey d k) {j : Nat} {v : Value} (hf : Instr.findNow d k (esF 0 l) 0 = some (some (j, v))) (ok : Bool) (w : World) (m : Nat) (hm : w.heap[m]? = some (mapO l)) :
    (Instr.lookup T (.map (some m)) k ok).run P w = .ok (if ok then .tuple #[v, .bool true] else v) w := by
  have hb : w.heap[m]? = some (.map (esF 0 l).toArray l.length) := hm
  have hc : ∀ e, (Instr.checkKey e 10000 K k).run P w = .ok () w := fun e => MapKept.run_checkKey hK hk e 9999
  simp [Instr.lookup, run_underlying hT, MapKept.run_getObj_map hb, hc, MapKept.run_findKey (l := esF 0 l) hK hf, Result.andThen]
theorem run_look_no (l : List (Value × Value)) (k : Value) (hk : MapKept.IsKey d k) {z : Value} (hf : Instr.findNow d k (esF 0 l) 0 = some none) (ok : Bool) (w : World) (hz : (zeroValue E).run P w = .ok z w) (m : Nat) (hm : w.heap[m]? = some (mapO l)) :
    (Instr.lookup T (.map (some m)) k ok).run P w = .ok (if ok then .tuple #[z, .bool false] else z) w := by
  have hb : w.heap[m]? = some (.map (esF 0 l).toArray l.length) := hm
  have hc : ∀ e, (Instr.checkKey e 10000 K k).run P w = .ok () w := fun e => MapKept.run_checkKey hK hk e 9999
  simp [Instr.lookup, run_underlying hT, MapKept.run_getObj_map hb, hc, MapKept.run_findKey (l := esF 0 l) hK hf, hz, Result.andThen]
end
/-- A set of texts, as a map to true. -/
def trues (l : List ByteArray) : List (Value × Value) := l.map fun s => (.string s, .bool true)
theorem find_trues (t : ByteArray) : ∀ (l : List ByteArray) (i b : Nat), (l.any (fun s => decide (s = t)) = true → ∃ j, Instr.findNow .string (.string t) (esF b (trues l)) i = some (some (j, .bool true))) ∧ (l.any (fun s => decide (s = t)) = false → Instr.findNow .string (.string t) (esF b (trues l)) i = some none)
  | [], i, b => ⟨(fun h => by cases h), fun _ => rfl⟩
  | s :: l, i, b => by
    have ih := find_trues t l (i + 1) (b + 1)
    have e : Instr.findNow .string (.string t) (esF b (trues (s :: l))) i = if (t == s) = true then some (some (i, .bool true)) else Instr.findNow .string (.string t) (esF (b + 1) (trues l)) (i + 1) := by
      show (match Instr.sameNow .string (.string t) (.string s) with | some true => _ | some false => _ | none => _) = _
      simp only [Instr.sameNow]
      cases h : t == s <;> rfl
    have hb : (t == s) = decide (s = t) := by
      rw [Bool.eq_iff_iff, decide_eq_true_eq]
      constructor
      · intro h; exact ((MapKept.bytes_beq _ _).1 h).symm
      · intro h; exact (MapKept.bytes_beq _ _).2 h.symm
    rw [e, hb]
    simp only [List.any_cons]
    cases h : decide (s = t)
    · simp only [Bool.false_or, Bool.false_eq_true, if_false]
      exact ih
    · simp
end Go.Proofs.Ytecmjhohniipoaa.Ex
