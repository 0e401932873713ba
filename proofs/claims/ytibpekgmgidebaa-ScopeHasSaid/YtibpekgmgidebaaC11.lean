/- konst.Same at TRUE. -/
import Derived.Test.YtibpekgmgidebaaC10
import Derived.MapKept
set_option linter.unusedSimpArgs false
set_option linter.unusedVariables false
namespace Go.Proofs.Ytibpekgmgidebaa.Sc
open Go.RowKit
open Od

/-- The entries, from the i-th on. -/
def esF : Nat → List (Value × Value) → List MapEntry
  | _, [] => []
  | i, (k, v) :: r => { key := k, val := v, born := i } :: esF (i + 1) r
/-- A map with these entries, as a text's inserts leave it. -/
def mapO (l : List (Value × Value)) : Obj := .map (esF 0 l).toArray l.length
theorem esF_snoc (l : List (Value × Value)) (k v : Value) (i : Nat) : esF i (l ++ [(k, v)]) = esF i l ++ [{ key := k, val := v, born := i + l.length }] := by
  induction l generalizing i with
  | nil => rfl
  | cons a l ih => obtain ⟨a1, a2⟩ := a; simp only [List.cons_append, esF, ih, List.length_cons]; rw [show i + 1 + l.length = i + (l.length + 1) from by omega]
section
variable {P : Program} {T K E : TypeId} {d : TypeDesc} (hT : P.underlying T = some (.map K E)) (hK : P.underlying K = some d)
include hT hK
theorem run_ins (l : List (Value × Value)) (k v : Value) (hk : MapKept.IsKey d k) (hf : Instr.findNow d k (esF 0 l) 0 = some none) (W : World) (m : Nat) (hm : W.heap.size = m) :
    (Instr.mapUpdate T (.map (some m)) k v).run P (W.alloc (mapO l)) = .ok () (W.alloc (mapO (l ++ [(k, v)]))) := by
  subst hm
  have hb : (W.alloc (mapO l)).heap[W.heap.size]? = some (.map (esF 0 l).toArray l.length) := heap_alloc_new W _
  have hc : ∀ e, (Instr.checkKey e 10000 K k).run P (W.alloc (mapO l)) = .ok () (W.alloc (mapO l)) := fun e => MapKept.run_checkKey hK hk e 9999
  have e1 : (mapO (l ++ [(k, v)])) = .map (esF 0 l ++ [({ key := k, val := v, born := l.length } : MapEntry)]).toArray (l.length + 1) := by
    unfold mapO
    rw [esF_snoc]
    simp
  rw [e1]
  simp [Instr.mapUpdate, run_underlying hT, MapKept.run_getObj_map hb, hc, MapKept.run_findKey (l := esF 0 l) hK hf, MapKept.run_setObj_map _ hb, Result.andThen]
  unfold World.alloc
  simp [Array.setIfInBounds, Array.set_push]
theorem run_look (l : List (Value × Value)) (k : Value) (hk : MapKept.IsKey d k) {j : Nat} {v : Value} (hf : Instr.findNow d k (esF 0 l) 0 = some (some (j, v))) (ok : Bool) (w : World) (m : Nat) (hm : w.heap[m]? = some (mapO l)) :
    (Instr.lookup T (.map (some m)) k ok).run P w = .ok (if ok then .tuple #[v, .bool true] else v) w := by
  have hb : w.heap[m]? = some (.map (esF 0 l).toArray l.length) := hm
  have hc : ∀ e, (Instr.checkKey e 10000 K k).run P w = .ok () w := fun e => MapKept.run_checkKey hK hk e 9999
  simp [Instr.lookup, run_underlying hT, MapKept.run_getObj_map hb, hc, MapKept.run_findKey (l := esF 0 l) hK hf, Result.andThen]
theorem run_look_no (l : List (Value × Value)) (k : Value) (hk : MapKept.IsKey d k) {z : Value} (hf : Instr.findNow d k (esF 0 l) 0 = some none) (ok : Bool) (w : World) (hz : (zeroValue E).run P w = .ok z w) (m : Nat) (hm : w.heap[m]? = some (mapO l)) :
    (Instr.lookup T (.map (some m)) k ok).run P w = .ok (if ok then .tuple #[z, .bool false] else z) w := by
  have hb : w.heap[m]? = some (.map (esF 0 l).toArray l.length) := hm
  have hc : ∀ e, (Instr.checkKey e 10000 K k).run P w = .ok () w := fun e => MapKept.run_checkKey hK hk e 9999
  simp [Instr.lookup, run_underlying hT, MapKept.run_getObj_map hb, hc, MapKept.run_findKey (l := esF 0 l) hK hf, hz, Result.andThen]
end
theorem ta68 (w : World) : (Instr.typeAssert (.iface 41 (.bool true)) 20 68 true).run Try.prog w = .ok (.tuple #[.int .i64 0, .bool false]) w := by kernel_rfl
theorem ta85 (w : World) : (Instr.typeAssert (.iface 41 (.bool true)) 20 85 true).run Try.prog w = .ok (.tuple #[.int .u8 0, .bool false]) w := by kernel_rfl
theorem ta41 (w : World) : (Instr.typeAssert (.iface 41 (.bool true)) 20 41 true).run Try.prog w = .ok (.tuple #[.bool true, .bool true]) w := by kernel_rfl
attribute [local go_sem] ta68 ta85 ta41
set_option maxRecDepth 100000 in
set_option maxHeartbeats 3200000 in
theorem number_true (w : World) : Calls Try.prog 32 #[.iface 41 (.bool true)] w fun r w' => r = .returned (.tuple #[.int .i64 1, .bool true]) ∧ w.grownBy w' none := by
  have hmm := @run_makeMap Try.prog
  go_enter Try.func32, Try.ntmps32
  have hi := run_ins (P := Try.prog) (T := 88) (K := 41) (E := 2) (d := .bool) Try.underlying88 Try.underlying41 [] (.bool true) (.int .i64 1) trivial rfl w w.heap.size rfl
  have hk := run_look (P := Try.prog) (T := 88) (K := 41) (E := 2) (d := .bool) Try.underlying88 Try.underlying41 [(.bool true, .int .i64 1)] (.bool true) (j := 0) (v := .int .i64 1) trivial rfl false (w.alloc (mapO [(.bool true, .int .i64 1)])) w.heap.size (heap_alloc_new w _)
  have HM := Lib.hid (World.grownBy_alloc w (mapO [(.bool true, .int .i64 1)]) none)
  rw [show mapO [] = .map #[] 0 from rfl] at hi
  simp only [List.nil_append] at hi
  generalize w.alloc (mapO [(.bool true, .int .i64 1)]) = w2 at *
  go_wp2
  go_ret2
  exact ⟨rfl, HM.out⟩
set_option maxRecDepth 100000 in
set_option maxHeartbeats 3200000 in
theorem is_true (w : World) : Calls Try.prog 27 #[.iface 41 (.bool true)] w fun r w' => r = .returned (.bool true) ∧ w.grownBy w' none := by
  have HN := Lib.hid (number_true w)
  go_enter Try.func27, Try.ntmps27
  go_wp2_with fail
  with_reducible refine HN.out.mono ?_
  rintro r w2 ⟨rfl, hg⟩
  have HG := Lib.hid hg
  clear hg
  go_wp2
  go_ret
  exact ⟨rfl, HG.out⟩
set_option maxRecDepth 100000 in
set_option maxHeartbeats 3200000 in
theorem same_true (w : World) : Calls Try.prog 15 #[.iface 41 (.bool true), .iface 41 (.bool true)] w fun r w' => r = .returned (.bool true) ∧ w.grownBy w' none := by
  have HI := Lib.hid (fun (wx : World) => is_true wx)
  go_enter Try.func15, Try.ntmps15
  go_wp2_with fail
  with_reducible refine (HI.out _).mono ?_
  rintro r w2 ⟨rfl, hg⟩
  have HG := Lib.hid hg
  clear hg
  go_wp2_with fail
  with_reducible refine (HI.out _).mono ?_
  rintro r w3 ⟨rfl, hg⟩
  have HG3 := Lib.hid (grown_trans HG.out hg)
  clear hg
  have he : (binOp .eql 20 (.iface 41 (.bool true)) (.iface 41 (.bool true))).run Try.prog w3 = .ok (.bool true) w3 := by kernel_rfl
  go_wp2
  go_ret
  exact ⟨rfl, HG3.out⟩
end Go.Proofs.Ytibpekgmgidebaa.Sc
