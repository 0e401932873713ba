/- A part of the proof: U8. -/
import Derived.Test.YtkemhmfdooghkaaGreatDoorZ1
import Derived.Test.YtkemhmfdooghkaaGreatDoorZ35
import Derived.Test.YtkemhmfdooghkaaGreatDoorZ36
import Derived.Deep.Cut
import Derived.Deep.CutBlock
import Derived.Deep.CutRange
import Derived.Deep.AppendLies
import Derived.Deep.LoopGhost
set_option linter.unusedSimpArgs false
set_option linter.unusedVariables false

section
namespace Go.Proofs.YtkemhmfdooghkaaGreatDoor.St
open Go.RowKit
open Tr (Nd Fo RepS RepN Rep cellsN)
open Lx (Tk noTk Blk run_store_complexL TokAt)
open Fl
open Ex
attribute [local go_sem] run_store_complexL run_field1 run_field3
def entsV (l : List (ByteArray × Value)) : List (Value × Value) := l.map fun x => (.string x.1, x.2)
theorem find_ents (t : ByteArray) : ∀ (l : List (ByteArray × Value)) (i b : Nat), (∀ v, (l.find? (fun x => decide (x.1 = t))).map (·.2) = some v → ∃ j, Instr.findNow .string (.string t) (esF b (entsV l)) i = some (some (j, v))) ∧ ((∀ x ∈ l, x.1 ≠ t) → Instr.findNow .string (.string t) (esF b (entsV l)) i = some none)
 | [], i, b => ⟨(fun v h => by cases h), fun _ => rfl⟩
 | (s, u) :: l, i, b => by
   have ih := find_ents t l (i + 1) (b + 1)
   have e : Instr.findNow .string (.string t) (esF b (entsV ((s, u) :: l))) i = if (t == s) = true then some (some (i, u)) else Instr.findNow .string (.string t) (esF (b + 1) (entsV l)) (i + 1) := by
    show (match Instr.sameNow .string (.string t) (.string s) with | some true => _ | some false => _ | none => _) = _
    simp only [Instr.sameNow]
    all_goals (cases h : t == s <;> rfl)
   have hb : (t == s) = decide (s = t) := by
    rw [Bool.eq_iff_iff, decide_eq_true_eq]
    constructor
    ·intro h; exact ((MapKept.bytes_beq _ _).1 h).symm
    ·intro h; exact (MapKept.bytes_beq _ _).2 h.symm
   rw [e, hb]
   by_cases h : s = t
   ·simp [h]
   ·simp only [List.find?_cons, decide_eq_false h, Bool.false_eq_true, if_false]
    exact ⟨ih.1, fun hx => ih.2 fun x hxm => hx x (List.mem_cons_of_mem _ hxm)⟩
theorem ents_snoc (l : List (ByteArray × Value)) (s : ByteArray) (v : Value) : entsV l ++ [(.string s, v)] = entsV (l ++ [(s, v)]) := by simp [entsV]
def wordE (br : Nat) : List (ByteArray × Value) := [(sIf, .func (.func 108) #[.pointer (some ⟨br, 0, none⟩)] #[]), (sCase, .func (.func 109) #[.pointer (some ⟨br, 0, none⟩)] #[]), (sWhile, .func (.func 110) #[.pointer (some ⟨br, 0, none⟩)] #[]), (sRepeat, .func (.func 111) #[.pointer (some ⟨br, 0, none⟩)] #[]), (sLoop, .func (.func 112) #[.pointer (some ⟨br, 0, none⟩)] #[]), (sExit, .func (.func 113) #[.pointer (some ⟨br, 0, none⟩)] #[]), (sFor, .func (.func 114) #[.pointer (some ⟨br, 0, none⟩)] #[]), (sWith, .func (.func 115) #[.pointer (some ⟨br, 0, none⟩)] #[]), (sReturn, .func (.func 116) #[.pointer (some ⟨br, 0, none⟩)] #[])]
theorem ins_w (l : List (ByteArray × Value)) (s : ByteArray) (v : Value) (hn : ∀ x ∈ l, x.1 ≠ s) (W : World) (m : Nat) (hm : W.heap.size = m) : (Instr.mapUpdate 139 (.map (some m)) (.string s) v).run Tryz.prog (W.alloc (mapO (entsV l))) = .ok () (W.alloc (mapO (entsV (l ++ [(s, v)])))) := by
 rw [← ents_snoc]
 exact run_ins Tryz.underlying139 Tryz.underlying9 (entsV l) (.string s) v (by simp [MapKept.IsKey]) ((find_ents _ _ 0 0).2 hn) W m hm
theorem ins_0 (br : Nat) (W : World) (m : Nat) (hm : W.heap.size = m) : (Instr.mapUpdate 139 (.map (some m)) (.string sIf) (.func (.func 108) #[.pointer (some ⟨br, 0, none⟩)] #[])).run Tryz.prog (W.alloc (.map #[] 0)) = .ok () (W.alloc (mapO (entsV [(sIf, .func (.func 108) #[.pointer (some ⟨br, 0, none⟩)] #[])]))) := ins_w [] sIf _ (by simp) W m hm
theorem ins_1 (br : Nat) (W : World) (m : Nat) (hm : W.heap.size = m) : (Instr.mapUpdate 139 (.map (some m)) (.string sCase) (.func (.func 109) #[.pointer (some ⟨br, 0, none⟩)] #[])).run Tryz.prog (W.alloc (mapO (entsV [(sIf, .func (.func 108) #[.pointer (some ⟨br, 0, none⟩)] #[])]))) = .ok () (W.alloc (mapO (entsV [(sIf, .func (.func 108) #[.pointer (some ⟨br, 0, none⟩)] #[]), (sCase, .func (.func 109) #[.pointer (some ⟨br, 0, none⟩)] #[])]))) := ins_w [(sIf, .func (.func 108) #[.pointer (some ⟨br, 0, none⟩)] #[])] sCase _ (by simp) W m hm
theorem ins_2 (br : Nat) (W : World) (m : Nat) (hm : W.heap.size = m) : (Instr.mapUpdate 139 (.map (some m)) (.string sWhile) (.func (.func 110) #[.pointer (some ⟨br, 0, none⟩)] #[])).run Tryz.prog (W.alloc (mapO (entsV [(sIf, .func (.func 108) #[.pointer (some ⟨br, 0, none⟩)] #[]), (sCase, .func (.func 109) #[.pointer (some ⟨br, 0, none⟩)] #[])]))) = .ok () (W.alloc (mapO (entsV [(sIf, .func (.func 108) #[.pointer (some ⟨br, 0, none⟩)] #[]), (sCase, .func (.func 109) #[.pointer (some ⟨br, 0, none⟩)] #[]), (sWhile, .func (.func 110) #[.pointer (some ⟨br, 0, none⟩)] #[])]))) := ins_w [(sIf, .func (.func 108) #[.pointer (some ⟨br, 0, none⟩)] #[]), (sCase, .func (.func 109) #[.pointer (some ⟨br, 0, none⟩)] #[])] sWhile _ (by simp) W m hm
theorem ins_3 (br : Nat) (W : World) (m : Nat) (hm : W.heap.size = m) : (Instr.mapUpdate 139 (.map (some m)) (.string sRepeat) (.func (.func 111) #[.pointer (some ⟨br, 0, none⟩)] #[])).run Tryz.prog (W.alloc (mapO (entsV [(sIf, .func (.func 108) #[.pointer (some ⟨br, 0, none⟩)] #[]), (sCase, .func (.func 109) #[.pointer (some ⟨br, 0, none⟩)] #[]), (sWhile, .func (.func 110) #[.pointer (some ⟨br, 0, none⟩)] #[])]))) = .ok () (W.alloc (mapO (entsV [(sIf, .func (.func 108) #[.pointer (some ⟨br, 0, none⟩)] #[]), (sCase, .func (.func 109) #[.pointer (some ⟨br, 0, none⟩)] #[]), (sWhile, .func (.func 110) #[.pointer (some ⟨br, 0, none⟩)] #[]), (sRepeat, .func (.func 111) #[.pointer (some ⟨br, 0, none⟩)] #[])]))) := ins_w [(sIf, .func (.func 108) #[.pointer (some ⟨br, 0, none⟩)] #[]), (sCase, .func (.func 109) #[.pointer (some ⟨br, 0, none⟩)] #[]), (sWhile, .func (.func 110) #[.pointer (some ⟨br, 0, none⟩)] #[])] sRepeat _ (by simp) W m hm
theorem ins_4 (br : Nat) (W : World) (m : Nat) (hm : W.heap.size = m) : (Instr.mapUpdate 139 (.map (some m)) (.string sLoop) (.func (.func 112) #[.pointer (some ⟨br, 0, none⟩)] #[])).run Tryz.prog (W.alloc (mapO (entsV [(sIf, .func (.func 108) #[.pointer (some ⟨br, 0, none⟩)] #[]), (sCase, .func (.func 109) #[.pointer (some ⟨br, 0, none⟩)] #[]), (sWhile, .func (.func 110) #[.pointer (some ⟨br, 0, none⟩)] #[]), (sRepeat, .func (.func 111) #[.pointer (some ⟨br, 0, none⟩)] #[])]))) = .ok () (W.alloc (mapO (entsV [(sIf, .func (.func 108) #[.pointer (some ⟨br, 0, none⟩)] #[]), (sCase, .func (.func 109) #[.pointer (some ⟨br, 0, none⟩)] #[]), (sWhile, .func (.func 110) #[.pointer (some ⟨br, 0, none⟩)] #[]), (sRepeat, .func (.func 111) #[.pointer (some ⟨br, 0, none⟩)] #[]), (sLoop, .func (.func 112) #[.pointer (some ⟨br, 0, none⟩)] #[])]))) := ins_w [(sIf, .func (.func 108) #[.pointer (some ⟨br, 0, none⟩)] #[]), (sCase, .func (.func 109) #[.pointer (some ⟨br, 0, none⟩)] #[]), (sWhile, .func (.func 110) #[.pointer (some ⟨br, 0, none⟩)] #[]), (sRepeat, .func (.func 111) #[.pointer (some ⟨br, 0, none⟩)] #[])] sLoop _ (by simp) W m hm
theorem ins_5 (br : Nat) (W : World) (m : Nat) (hm : W.heap.size = m) : (Instr.mapUpdate 139 (.map (some m)) (.string sExit) (.func (.func 113) #[.pointer (some ⟨br, 0, none⟩)] #[])).run Tryz.prog (W.alloc (mapO (entsV [(sIf, .func (.func 108) #[.pointer (some ⟨br, 0, none⟩)] #[]), (sCase, .func (.func 109) #[.pointer (some ⟨br, 0, none⟩)] #[]), (sWhile, .func (.func 110) #[.pointer (some ⟨br, 0, none⟩)] #[]), (sRepeat, .func (.func 111) #[.pointer (some ⟨br, 0, none⟩)] #[]), (sLoop, .func (.func 112) #[.pointer (some ⟨br, 0, none⟩)] #[])]))) = .ok () (W.alloc (mapO (entsV [(sIf, .func (.func 108) #[.pointer (some ⟨br, 0, none⟩)] #[]), (sCase, .func (.func 109) #[.pointer (some ⟨br, 0, none⟩)] #[]), (sWhile, .func (.func 110) #[.pointer (some ⟨br, 0, none⟩)] #[]), (sRepeat, .func (.func 111) #[.pointer (some ⟨br, 0, none⟩)] #[]), (sLoop, .func (.func 112) #[.pointer (some ⟨br, 0, none⟩)] #[]), (sExit, .func (.func 113) #[.pointer (some ⟨br, 0, none⟩)] #[])]))) := ins_w [(sIf, .func (.func 108) #[.pointer (some ⟨br, 0, none⟩)] #[]), (sCase, .func (.func 109) #[.pointer (some ⟨br, 0, none⟩)] #[]), (sWhile, .func (.func 110) #[.pointer (some ⟨br, 0, none⟩)] #[]), (sRepeat, .func (.func 111) #[.pointer (some ⟨br, 0, none⟩)] #[]), (sLoop, .func (.func 112) #[.pointer (some ⟨br, 0, none⟩)] #[])] sExit _ (by simp) W m hm
theorem ins_6 (br : Nat) (W : World) (m : Nat) (hm : W.heap.size = m) : (Instr.mapUpdate 139 (.map (some m)) (.string sFor) (.func (.func 114) #[.pointer (some ⟨br, 0, none⟩)] #[])).run Tryz.prog (W.alloc (mapO (entsV [(sIf, .func (.func 108) #[.pointer (some ⟨br, 0, none⟩)] #[]), (sCase, .func (.func 109) #[.pointer (some ⟨br, 0, none⟩)] #[]), (sWhile, .func (.func 110) #[.pointer (some ⟨br, 0, none⟩)] #[]), (sRepeat, .func (.func 111) #[.pointer (some ⟨br, 0, none⟩)] #[]), (sLoop, .func (.func 112) #[.pointer (some ⟨br, 0, none⟩)] #[]), (sExit, .func (.func 113) #[.pointer (some ⟨br, 0, none⟩)] #[])]))) = .ok () (W.alloc (mapO (entsV [(sIf, .func (.func 108) #[.pointer (some ⟨br, 0, none⟩)] #[]), (sCase, .func (.func 109) #[.pointer (some ⟨br, 0, none⟩)] #[]), (sWhile, .func (.func 110) #[.pointer (some ⟨br, 0, none⟩)] #[]), (sRepeat, .func (.func 111) #[.pointer (some ⟨br, 0, none⟩)] #[]), (sLoop, .func (.func 112) #[.pointer (some ⟨br, 0, none⟩)] #[]), (sExit, .func (.func 113) #[.pointer (some ⟨br, 0, none⟩)] #[]), (sFor, .func (.func 114) #[.pointer (some ⟨br, 0, none⟩)] #[])]))) := ins_w [(sIf, .func (.func 108) #[.pointer (some ⟨br, 0, none⟩)] #[]), (sCase, .func (.func 109) #[.pointer (some ⟨br, 0, none⟩)] #[]), (sWhile, .func (.func 110) #[.pointer (some ⟨br, 0, none⟩)] #[]), (sRepeat, .func (.func 111) #[.pointer (some ⟨br, 0, none⟩)] #[]), (sLoop, .func (.func 112) #[.pointer (some ⟨br, 0, none⟩)] #[]), (sExit, .func (.func 113) #[.pointer (some ⟨br, 0, none⟩)] #[])] sFor _ (by simp) W m hm
theorem ins_7 (br : Nat) (W : World) (m : Nat) (hm : W.heap.size = m) : (Instr.mapUpdate 139 (.map (some m)) (.string sWith) (.func (.func 115) #[.pointer (some ⟨br, 0, none⟩)] #[])).run Tryz.prog (W.alloc (mapO (entsV [(sIf, .func (.func 108) #[.pointer (some ⟨br, 0, none⟩)] #[]), (sCase, .func (.func 109) #[.pointer (some ⟨br, 0, none⟩)] #[]), (sWhile, .func (.func 110) #[.pointer (some ⟨br, 0, none⟩)] #[]), (sRepeat, .func (.func 111) #[.pointer (some ⟨br, 0, none⟩)] #[]), (sLoop, .func (.func 112) #[.pointer (some ⟨br, 0, none⟩)] #[]), (sExit, .func (.func 113) #[.pointer (some ⟨br, 0, none⟩)] #[]), (sFor, .func (.func 114) #[.pointer (some ⟨br, 0, none⟩)] #[])]))) = .ok () (W.alloc (mapO (entsV [(sIf, .func (.func 108) #[.pointer (some ⟨br, 0, none⟩)] #[]), (sCase, .func (.func 109) #[.pointer (some ⟨br, 0, none⟩)] #[]), (sWhile, .func (.func 110) #[.pointer (some ⟨br, 0, none⟩)] #[]), (sRepeat, .func (.func 111) #[.pointer (some ⟨br, 0, none⟩)] #[]), (sLoop, .func (.func 112) #[.pointer (some ⟨br, 0, none⟩)] #[]), (sExit, .func (.func 113) #[.pointer (some ⟨br, 0, none⟩)] #[]), (sFor, .func (.func 114) #[.pointer (some ⟨br, 0, none⟩)] #[]), (sWith, .func (.func 115) #[.pointer (some ⟨br, 0, none⟩)] #[])]))) := ins_w [(sIf, .func (.func 108) #[.pointer (some ⟨br, 0, none⟩)] #[]), (sCase, .func (.func 109) #[.pointer (some ⟨br, 0, none⟩)] #[]), (sWhile, .func (.func 110) #[.pointer (some ⟨br, 0, none⟩)] #[]), (sRepeat, .func (.func 111) #[.pointer (some ⟨br, 0, none⟩)] #[]), (sLoop, .func (.func 112) #[.pointer (some ⟨br, 0, none⟩)] #[]), (sExit, .func (.func 113) #[.pointer (some ⟨br, 0, none⟩)] #[]), (sFor, .func (.func 114) #[.pointer (some ⟨br, 0, none⟩)] #[])] sWith _ (by simp) W m hm
theorem ins_8 (br : Nat) (W : World) (m : Nat) (hm : W.heap.size = m) : (Instr.mapUpdate 139 (.map (some m)) (.string sReturn) (.func (.func 116) #[.pointer (some ⟨br, 0, none⟩)] #[])).run Tryz.prog (W.alloc (mapO (entsV [(sIf, .func (.func 108) #[.pointer (some ⟨br, 0, none⟩)] #[]), (sCase, .func (.func 109) #[.pointer (some ⟨br, 0, none⟩)] #[]), (sWhile, .func (.func 110) #[.pointer (some ⟨br, 0, none⟩)] #[]), (sRepeat, .func (.func 111) #[.pointer (some ⟨br, 0, none⟩)] #[]), (sLoop, .func (.func 112) #[.pointer (some ⟨br, 0, none⟩)] #[]), (sExit, .func (.func 113) #[.pointer (some ⟨br, 0, none⟩)] #[]), (sFor, .func (.func 114) #[.pointer (some ⟨br, 0, none⟩)] #[]), (sWith, .func (.func 115) #[.pointer (some ⟨br, 0, none⟩)] #[])]))) = .ok () (W.alloc (mapO (entsV [(sIf, .func (.func 108) #[.pointer (some ⟨br, 0, none⟩)] #[]), (sCase, .func (.func 109) #[.pointer (some ⟨br, 0, none⟩)] #[]), (sWhile, .func (.func 110) #[.pointer (some ⟨br, 0, none⟩)] #[]), (sRepeat, .func (.func 111) #[.pointer (some ⟨br, 0, none⟩)] #[]), (sLoop, .func (.func 112) #[.pointer (some ⟨br, 0, none⟩)] #[]), (sExit, .func (.func 113) #[.pointer (some ⟨br, 0, none⟩)] #[]), (sFor, .func (.func 114) #[.pointer (some ⟨br, 0, none⟩)] #[]), (sWith, .func (.func 115) #[.pointer (some ⟨br, 0, none⟩)] #[]), (sReturn, .func (.func 116) #[.pointer (some ⟨br, 0, none⟩)] #[])]))) := ins_w [(sIf, .func (.func 108) #[.pointer (some ⟨br, 0, none⟩)] #[]), (sCase, .func (.func 109) #[.pointer (some ⟨br, 0, none⟩)] #[]), (sWhile, .func (.func 110) #[.pointer (some ⟨br, 0, none⟩)] #[]), (sRepeat, .func (.func 111) #[.pointer (some ⟨br, 0, none⟩)] #[]), (sLoop, .func (.func 112) #[.pointer (some ⟨br, 0, none⟩)] #[]), (sExit, .func (.func 113) #[.pointer (some ⟨br, 0, none⟩)] #[]), (sFor, .func (.func 114) #[.pointer (some ⟨br, 0, none⟩)] #[]), (sWith, .func (.func 115) #[.pointer (some ⟨br, 0, none⟩)] #[])] sReturn _ (by simp) W m hm
theorem look_no {br : Nat} {t : ByteArray} (h : ∀ x ∈ wordE br, x.1 ≠ t) (w : World) (m : Nat) (hm : w.heap[m]? = some (mapO (entsV (wordE br)))) : (Instr.lookup 139 (.map (some m)) (.string t) true).run Tryz.prog w = .ok (.tuple #[.nilFunc, .bool false]) w :=
 run_look_no Tryz.underlying139 Tryz.underlying9 (entsV (wordE br)) (.string t) (by simp [MapKept.IsKey]) ((find_ents _ _ 0 0).2 h) true w (by kernel_rfl) m hm
theorem look_yes {br : Nat} {t : ByteArray} {v : Value} (h : ((wordE br).find? (fun x => decide (x.1 = t))).map (·.2) = some v) (w : World) (m : Nat) (hm : w.heap[m]? = some (mapO (entsV (wordE br)))) : (Instr.lookup 139 (.map (some m)) (.string t) true).run Tryz.prog w = .ok (.tuple #[v, .bool true]) w := by
 obtain ⟨j, hj⟩ := (find_ents t (wordE br) 0 0).1 v h
 exact run_look Tryz.underlying139 Tryz.underlying9 (entsV (wordE br)) (.string t) (by simp [MapKept.IsKey]) hj true w m hm
theorem look_det {a a' : Value} {b b' : Bool} {w : World} {r : Result Value} (h1 : r = .ok (.tuple #[a, .bool b]) w) (h2 : r = .ok (.tuple #[a', .bool b']) w) : a = a' ∧ b = b' := by
 rw [h1] at h2
 injection h2 with h2 _
 injection h2 with h2
 simp only [List.toArray_inj, Array.mk.injEq, List.cons.injEq, Value.bool.injEq, and_true] at h2
 exact h2
theorem look_any (br : Nat) (t : ByteArray) : ∃ (v : Value) (ok : Bool), (ok = true → ∃ x ∈ wordE br, x.1 = t) ∧ ∀ (w : World) (m : Nat), w.heap[m]? = some (mapO (entsV (wordE br))) → (Instr.lookup 139 (.map (some m)) (.string t) true).run Tryz.prog w = .ok (.tuple #[v, .bool ok]) w := by
 cases h : ((wordE br).find? (fun x => decide (x.1 = t))) with
 | some x =>
   refine ⟨x.2, true, fun _ => ⟨x, List.mem_of_find?_eq_some h, by have := List.find?_some h; simpa using this⟩, fun w m hm => look_yes (by rw [h]; rfl) w m hm⟩
 | none =>
   refine ⟨_, false, fun h => (by cases h), fun w m hm => look_no (fun x hx => by have := List.find?_eq_none.1 h x hx; simpa using this) w m hm⟩
section
variable {g : Nat} {bd : Par T1} {L : List PT} {j : Nat}
theorem nw {s s' : ByteArray} {t : PT} (h : t.1.text = s') (hn : s' ≠ s) : isWd6 s t = false := by unfold isWd6; rw [h]; simp [hn]
theorem yw {s : ByteArray} {t : PT} (hk : t.1.kind = 6) (h : t.1.text = s) : isWd6 s t = true := by unfold isWd6; rw [h, hk]; simp
theorem k6 {s : ByteArray} {t : PT} (hk : ¬ t.1.kind = 6) : isWd6 s t = false := by unfold isWd6; simp [hk]
theorem stm_cons_n {s : ByteArray} {q : Nat × Nat → Par T1} {r : List (ByteArray × (Nat × Nat → Par T1))} (h : isWd6 s (tk L j) = false) : stmL g ((s, q) :: r) L j = stmL g r L j := tok_n h
theorem stm_cons_y {s : ByteArray} {q : Nat × Nat → Par T1} {r : List (ByteArray × (Nat × Nat → Par T1))} (h : isWd6 s (tk L j) = true) : stmL g ((s, q) :: r) L j = bindP (q (tk L j).2.1) (fun x => retP [x]) L (j + 1) := tok_y h
theorem stm_skipL : ∀ (l : List (ByteArray × (Nat × Nat → Par T1))), (∀ x ∈ l, isWd6 x.1 (tk L j) = false) → stmL g l L j = stmL g [] L j
 | [], _ => rfl
 | (s, q) :: r, h => (tok_n (h _ (List.mem_cons_self ..))).trans (stm_skipL r fun x hx => h x (List.mem_cons_of_mem _ hx))
theorem stm_name (hk : (tk L j).1.kind = 1) : stmS g bd L j = bindP (plainS g) (fun x => retP [x]) L j := by
 refine (stm_skipL _ fun x _ => k6 (by rw [hk]; decide)).trans ?_
 show (if isNm (tk L j) = true then _ else _ : Par (List T1)) L j = _
 rw [if_pos (by unfold isNm; rw [hk]; rfl)]
theorem stm_none (hk : ¬ (tk L j).1.kind = 1) (h : ∀ x ∈ alts g bd, isWd6 x.1 (tk L j) = false) : stmS g bd L j = .ok ([], j) := by
 refine (stm_skipL _ h).trans ?_
 show (if isNm (tk L j) = true then _ else _ : Par (List T1)) L j = _
 rw [if_neg (by unfold isNm; simpa using hk)]
 rfl
theorem stm_bind {q : Par T1} {j' : Nat} {R : List T1 → Par T1} (h : stmS g bd L j = bindP q (fun x => retP [x]) L j') : bindP (stmS g bd) R L j = bindP q (fun x => R [x]) L j' := by
 have e : ∀ r : Except Nat (List T1 × Nat), stmS g bd L j = r → bindP (stmS g bd) R L j = (match r with | .error k => .error k | .ok (a, j) => R a L j) := fun r hr => by unfold bindP; rw [hr] <;> (cases r <;> rfl)
 rw [e _ h]
 unfold bindP
 cases q L j' with
 | error k => rfl
 | ok r => rfl
theorem body_step {f : Nat} {acc : List T1} {Q : List T1 → Par T1} : bindP (bodyR g bd (f + 1) acc) Q = bindP (stmS g bd) fun s => tokP (tT sSem) (fun _ => bindP (bodyR g bd f (acc ++ s)) Q) (Q (acc ++ s)) := by
 simp only [bodyR, bind_assoc, tok_bind, ret_bind]
theorem stm_w0 (hk : (tk L j).1.kind = 6) (ht : (tk L j).1.text = sIf) : stmS g bd L j = bindP (ifS g bd (tk L j).2.1) (fun x => retP [x]) L (j + 1) := by
 unfold stmS alts
 exact stm_cons_y (yw hk ht)
theorem stm_w1 (hk : (tk L j).1.kind = 6) (ht : (tk L j).1.text = sCase) : stmS g bd L j = bindP (caseS g bd (tk L j).2.1) (fun x => retP [x]) L (j + 1) := by
 unfold stmS alts
 rw [stm_cons_n (nw (s := sIf) ht (by decide))]
 exact stm_cons_y (yw hk ht)
theorem stm_w2 (hk : (tk L j).1.kind = 6) (ht : (tk L j).1.text = sWhile) : stmS g bd L j = bindP (whileS g bd (tk L j).2.1) (fun x => retP [x]) L (j + 1) := by
 unfold stmS alts
 rw [stm_cons_n (nw (s := sIf) ht (by decide))]
 rw [stm_cons_n (nw (s := sCase) ht (by decide))]
 exact stm_cons_y (yw hk ht)
theorem stm_w3 (hk : (tk L j).1.kind = 6) (ht : (tk L j).1.text = sRepeat) : stmS g bd L j = bindP (repS g bd (tk L j).2.1) (fun x => retP [x]) L (j + 1) := by
 unfold stmS alts
 rw [stm_cons_n (nw (s := sIf) ht (by decide))]
 rw [stm_cons_n (nw (s := sCase) ht (by decide))]
 rw [stm_cons_n (nw (s := sWhile) ht (by decide))]
 exact stm_cons_y (yw hk ht)
theorem stm_w4 (hk : (tk L j).1.kind = 6) (ht : (tk L j).1.text = sLoop) : stmS g bd L j = bindP (loopS bd (tk L j).2.1) (fun x => retP [x]) L (j + 1) := by
 unfold stmS alts
 rw [stm_cons_n (nw (s := sIf) ht (by decide))]
 rw [stm_cons_n (nw (s := sCase) ht (by decide))]
 rw [stm_cons_n (nw (s := sWhile) ht (by decide))]
 rw [stm_cons_n (nw (s := sRepeat) ht (by decide))]
 exact stm_cons_y (yw hk ht)
theorem stm_w5 (hk : (tk L j).1.kind = 6) (ht : (tk L j).1.text = sExit) : stmS g bd L j = bindP (exitS (tk L j).2.1) (fun x => retP [x]) L (j + 1) := by
 unfold stmS alts
 rw [stm_cons_n (nw (s := sIf) ht (by decide))]
 rw [stm_cons_n (nw (s := sCase) ht (by decide))]
 rw [stm_cons_n (nw (s := sWhile) ht (by decide))]
 rw [stm_cons_n (nw (s := sRepeat) ht (by decide))]
 rw [stm_cons_n (nw (s := sLoop) ht (by decide))]
 exact stm_cons_y (yw hk ht)
theorem stm_w6 (hk : (tk L j).1.kind = 6) (ht : (tk L j).1.text = sFor) : stmS g bd L j = bindP (forS g bd (tk L j).2.1) (fun x => retP [x]) L (j + 1) := by
 unfold stmS alts
 rw [stm_cons_n (nw (s := sIf) ht (by decide))]
 rw [stm_cons_n (nw (s := sCase) ht (by decide))]
 rw [stm_cons_n (nw (s := sWhile) ht (by decide))]
 rw [stm_cons_n (nw (s := sRepeat) ht (by decide))]
 rw [stm_cons_n (nw (s := sLoop) ht (by decide))]
 rw [stm_cons_n (nw (s := sExit) ht (by decide))]
 exact stm_cons_y (yw hk ht)
theorem stm_w7 (hk : (tk L j).1.kind = 6) (ht : (tk L j).1.text = sWith) : stmS g bd L j = bindP (withS g bd (tk L j).2.1) (fun x => retP [x]) L (j + 1) := by
 unfold stmS alts
 rw [stm_cons_n (nw (s := sIf) ht (by decide))]
 rw [stm_cons_n (nw (s := sCase) ht (by decide))]
 rw [stm_cons_n (nw (s := sWhile) ht (by decide))]
 rw [stm_cons_n (nw (s := sRepeat) ht (by decide))]
 rw [stm_cons_n (nw (s := sLoop) ht (by decide))]
 rw [stm_cons_n (nw (s := sExit) ht (by decide))]
 rw [stm_cons_n (nw (s := sFor) ht (by decide))]
 exact stm_cons_y (yw hk ht)
theorem stm_w8 (hk : (tk L j).1.kind = 6) (ht : (tk L j).1.text = sReturn) : stmS g bd L j = bindP (returnS g (tk L j).2.1) (fun x => retP [x]) L (j + 1) := by
 unfold stmS alts
 rw [stm_cons_n (nw (s := sIf) ht (by decide))]
 rw [stm_cons_n (nw (s := sCase) ht (by decide))]
 rw [stm_cons_n (nw (s := sWhile) ht (by decide))]
 rw [stm_cons_n (nw (s := sRepeat) ht (by decide))]
 rw [stm_cons_n (nw (s := sLoop) ht (by decide))]
 rw [stm_cons_n (nw (s := sExit) ht (by decide))]
 rw [stm_cons_n (nw (s := sFor) ht (by decide))]
 rw [stm_cons_n (nw (s := sWith) ht (by decide))]
 exact stm_cons_y (yw hk ht)
end
theorem KN.ne {B b : Nat} {w : World} {d : Nd} {sv : Value} {xs : List Value} (h : KN B w b d sv xs) : b < w.heap.size := h.blk.lt
section
variable {W W' w5 x5 : World} {mb br b B : Nat} {l : List (Value × Value)} {d : Nd} {sv u : Value} {xs : List Value}
theorem hm_below (h : W.heap[mb]? = some (mapO l)) (hb : Below W.heap.size W W') : W'.heap[mb]? = some (mapO l) := (hb.block mb (obj_lt h)).trans h
theorem hm_grown (h : W.heap[mb]? = some (mapO l)) (hg : W.grownBy W' (some br)) (hne : mb ≠ br) : W'.heap[mb]? = some (mapO l) := (hg.block mb (obj_lt h) (fun e => hne (by simpa using e))).trans h
theorem hm_set (h : W.heap[mb]? = some (mapO l)) {k : Nat} (hne : mb ≠ b) : (W.setCell ⟨b, k, none⟩ u).heap[mb]? = some (mapO l) := (Below.heap_setCell W ⟨b, k, none⟩ u mb hne).trans h
theorem hm_hung {o : Obj} (h : x5.heap[mb]? = some (mapO l)) (hk : KN B x5 b d sv xs) (hg : (x5.alloc o).grownBy w5 sv.ownBlock) : (w5.setCell ⟨b, 4, none⟩ u).heap[mb]? = some (mapO l) := by
 have h1 : (x5.alloc o).heap[mb]? = some (mapO l) := (Below.heap_alloc x5 o mb (obj_lt h)).trans h
 have hne : some mb ≠ sv.ownBlock := by
  intro e
  rcases hk.own.2 with ⟨e2, _⟩ | ⟨g', cap, cur, e2, _, hh, _⟩
  ·rw [e2] at e; cases e
  ·rw [e2] at e
   have e : mb = g' := by injection e
   subst e
   rw [h] at hh
   cases hh
 have h2 : w5.heap[mb]? = some (mapO l) := (hg.block mb (obj_lt h1) hne).trans h1
 have hb : mb ≠ b := by
  intro e
  subst e
  have := hk.blk
  unfold Tr.Blk at this
  rw [h] at this
  cases this
 exact hm_set h2 hb
end
def LKB (w0 w : World) (br : Nat) (A : Option Addr) (c : Nat) (L : List PT) (b : Nat) (d : Nd) (P : List T1 → Nat → Prop) (wr : World) : Prop :=
 ∃ (acc : List T1) (sv : Value) (xs : List Value) (j : Nat), j ≤ 60000 ∧ acc.length ≤ 2 * j + 4 ∧ PG w0 w wr br A c L j ∧ KG w.heap.size w.heap.size wr b d sv acc xs ∧ P acc j
set_option maxRecDepth 100000 in set_option maxHeartbeats 6400000 in
theorem bodyG_any {g : Nat} {w0 : World} {br c : Nat} {A : Option Addr} {L : List PT} (ht : TkS w0 br A L) (hg : L.length < g) {bd : Par T1} (hb2 : Good2 bd) {lo : Nat} (hB : SnOK 97 (fun j => bd L j) (lo + 1) w0 br A c L) (i : Nat) (hlo : lo ≤ i) (hi : i ≤ 60000) (w : World) (h : PInv w0 w br A c L i) :
 Calls Tryz.prog 97 #[.pointer (some ⟨br, 0, none⟩)] w (TreeR w.heap.size w0 w br A c L (bodyG g bd L i)) := by
 have hbr0 := h.row.lt
 have hlen := ht.toks.len
 have H0 := qh h
 have H := qh (PG.start h)
 have HT := qh ht
 have Q0 := qh (fun (p : Nat × Nat) j => g2_max (show Good2 (ifS g bd p) from g2_ifS hb2) L j)
 have W0 := qh (fun (j : Nat) (hj : lo + 1 ≤ j) (hl : j ≤ L.length) (p1 p2 : Nat) (w : World) (h : PInv w0 w br A c L j) => ifs_any (c := c) ht hg hb2 hB j hj hl p1 p2 w h)
 have Q1 := qh (fun (p : Nat × Nat) j => g2_max (show Good2 (caseS g bd p) from g2_caseS hb2) L j)
 have W1 := qh (fun (j : Nat) (hj : lo + 1 ≤ j) (hl : j ≤ L.length) (p1 p2 : Nat) (w : World) (h : PInv w0 w br A c L j) => cases_any (c := c) ht hg hb2 hB j hj hl p1 p2 w h)
 have Q2 := qh (fun (p : Nat × Nat) j => g2_max (show Good2 (whileS g bd p) from g2_whileS hb2) L j)
 have W2 := qh (fun (j : Nat) (hj : lo + 1 ≤ j) (hl : j ≤ L.length) (p1 p2 : Nat) (w : World) (h : PInv w0 w br A c L j) => whiles_any (c := c) ht hg hb2 hB j hj hl p1 p2 w h)
 have Q3 := qh (fun (p : Nat × Nat) j => g2_max (show Good2 (repS g bd p) from g2_repS hb2) L j)
 have W3 := qh (fun (j : Nat) (hj : lo + 1 ≤ j) (hl : j ≤ L.length) (p1 p2 : Nat) (w : World) (h : PInv w0 w br A c L j) => repeats_any (c := c) ht hg hb2 hB j hj hl p1 p2 w h)
 have Q4 := qh (fun (p : Nat × Nat) j => g2_max (show Good2 (loopS bd p) from g2_loopS hb2) L j)
 have W4 := qh (fun (j : Nat) (hj : lo + 1 ≤ j) (hl : j ≤ L.length) (p1 p2 : Nat) (w : World) (h : PInv w0 w br A c L j) => loops_any (c := c) ht hg hb2 hB j hj hl p1 p2 w h)
 have Q5 := qh (fun (p : Nat × Nat) j => g2_max (show Good2 (exitS p) from g2_ret _) L j)
 have W5 := qh (fun (j : Nat) (hj : lo + 1 ≤ j) (hl : j ≤ L.length) (p1 p2 : Nat) (w : World) (h : PInv w0 w br A c L j) => exits_any (c := c) ht hg (bd := bd) (lo := lo + 1) j hj hl p1 p2 w h)
 have Q6 := qh (fun (p : Nat × Nat) j => g2_max (show Good2 (forS g bd p) from g2_forS hb2) L j)
 have W6 := qh (fun (j : Nat) (hj : lo + 1 ≤ j) (hl : j ≤ L.length) (p1 p2 : Nat) (w : World) (h : PInv w0 w br A c L j) => fors_any (c := c) ht hg hb2 hB j hj hl p1 p2 w h)
 have Q7 := qh (fun (p : Nat × Nat) j => g2_max (show Good2 (withS g bd p) from g2_withS hb2) L j)
 have W7 := qh (fun (j : Nat) (hj : lo + 1 ≤ j) (hl : j ≤ L.length) (p1 p2 : Nat) (w : World) (h : PInv w0 w br A c L j) => withs_any (c := c) ht hg hb2 hB j hj hl p1 p2 w h)
 have Q8 := qh (fun (p : Nat × Nat) j => g2_max (show Good2 (returnS g p) from g2_returnS) L j)
 have W8 := qh (fun (j : Nat) (hj : lo + 1 ≤ j) (hl : j ≤ L.length) (p1 p2 : Nat) (w : World) (h : PInv w0 w br A c L j) => returns_any (c := c) ht hg (bd := bd) (lo := lo + 1) j hj hl p1 p2 w h)
 have QP := qh (fun j => g2_max (g2_plainS (g := g)) L j)
 have PL := qh (fun (j : Nat) (hl : j ≤ L.length) (w : World) (h : PInv w0 w br A c L j) => plain_any (c := c) ht hg j hl w h)
 have hmk := @run_makeMap Tryz.prog
 have hmf : ∀ (fn : Fn) (first cap : Array Value) (w : World), (Instr.makeFunc fn first cap).run Tryz.prog w = .ok (.func fn first cap) w := fun _ _ _ _ => rfl
 have hi_0 := ins_0 br
 have hi_1 := ins_1 br
 have hi_2 := ins_2 br
 have hi_3 := ins_3 br
 have hi_4 := ins_4 br
 have hi_5 := ins_5 br
 have hi_6 := ins_6 br
 have hi_7 := ins_7 br
 have hi_8 := ins_8 br
 obtain ⟨i0, hi0, hz0, hz1, hz2⟩ := info_parts infoN
 obtain ⟨res, hs0⟩ : ∃ r, r = bodyG g bd L i := ⟨_, rfl⟩
 show Calls _ _ _ _ (TreeR _ _ _ _ _ _ _ (bodyG g bd L i))
 rw [← hs0]
 have n1 := now_any ht.toks (i := i) (by omega) w h
 obtain ⟨k_, p1, p2, q3_, q4_, t_, n_, e1, e2⟩ := val_form (tk L i)
 rw [e2] at n1
 have N1 := qh n1
 have HS := qh (show res = bindP (bodyR g bd g []) (fun l => retP (mk 46 (p1, p2) sNil 0 l)) L i from by rw [hs0]; show bindP (bodyR g bd g []) (fun l => retP (mk 46 (tk L i).2.1 sNil 0 l)) L i = _; rw [show (tk L i).2.1 = (p1, p2) by rw [e1]])
 have hg0 := hg
 clear h ht hb2 hB hs0 n1 e1 e2
 go_enter Tryz.func97, Tryz.ntmps97
 go_wp2_with fail
 ((with_reducible refine N1.out.mono ?_); rintro e wv ⟨rfl, hb⟩)
 have H := qh (H.out.below hb)
 have hwv : w.heap.size ≤ wv.heap.size := H.out.2.size
 have NW := qh (new_0 (B0 := w.heap.size) (w := wv) H.out.2.size 46 46 rfl p1 p2 sNil 0)
 clear hb N1
 go_wp2_with fail
 ((with_reducible refine NW.out.mono ?_); rintro e wm ⟨b, sv0, xs0, rfl, hb, hk⟩)
 have H := qh (H.out.below hb)
 have HK := qh (hk.lower hwv)
 have hmw : w.heap.size ≤ wm.heap.size := H.out.2.size
 have hmb : wm.heap.size ≠ br := by omega
 clear hb hk NW
 have HM := qh (show (wm.alloc (mapO (entsV (wordE br)))).heap[wm.heap.size]? = some (mapO (entsV (wordE br))) from heap_alloc_new wm _)
 have HA := qh (H.out.alloc (mapO (entsV (wordE br))))
 have HKA := qh (HK.out.below ((Below.refl _ _).alloc (Nat.le_refl _) (mapO (entsV (wordE br)))))
 clear H HK
 go_wp2_with fail
 go_loopg [] (L.length + 1 - i) (fun gm wr => Hid (LKB w0 w br A c L b ⟨46, (p1, p2), sNil, 0⟩ (fun acc j => gm = L.length + 1 - j ∧ ∃ f, lo ≤ j ∧ 0 < f ∧ L.length < j + f ∧ res = bindP (bodyR g bd f acc) (fun l => retP (mk 46 (p1, p2) sNil 0 l)) L j) wr ∧ wr.heap[wm.heap.size]? = some (mapO (entsV (wordE br)))))
 case atStart => exact qh ⟨⟨_, _, _, _, by omega, by simp only [List.length_nil]; omega, HA.out, HKA.out, rfl, g, by omega, by omega, by omega, HS.out⟩, HM.out⟩
 case round =>
  clear HA HKA HM HS hi_0 hi_1 hi_2 hi_3 hi_4 hi_5 hi_6 hi_7 hi_8 hmk hmf
  obtain ⟨⟨acc, sv, xs, j, hj, hac, hG_, hK_, hgm, f, hlj, hf0, hf, hS_⟩, hM_⟩ := hrel.out
  obtain ⟨f, rfl⟩ : ∃ f', f = f' + 1 := ⟨f - 1, by omega⟩
  have H := qh hG_
  have HK := qh hK_
  have HM := qh hM_
  have HS := qh (show res = _ from hS_.trans (congrFun (congrFun body_step L) j))
  have hxl : xs.length ≤ 1000000 := by have := hK_.len; omega
  obtain ⟨wo, rfl⟩ : ∃ wo : World, wo = wr := ⟨_, rfl⟩
  clear hrel hG_ hK_ hS_ hM_
  have n1 := now_any HT.out.toks (i := j) (by omega) _ H.out.1
  obtain ⟨k, r1, r2, q1, q2, t, n, e1, e2⟩ := val_form (tk L j)
  have HPI := qh (show (tk L j).2.1 = (r1, r2) by rw [e1])
  have HKI := qh (show (tk L j).1.kind = k by rw [e1])
  have HTX := qh (show (tk L j).1.text = t by rw [e1])
  rw [e2] at n1
  have N1 := qh n1
  clear n1 e1 e2
  go_wp2_with fail
  ((with_reducible refine N1.out.mono ?_); rintro e wn ⟨rfl, hb⟩)
  have H := qh (H.out.below hb)
  have HK := qh (HK.out.below hb)
  have HM := qh (hm_below HM.out hb)
  clear hb N1
  have hbrn : br < wn.heap.size := by have := H.out.2.size; omega
  have hne : ¬ br = wn.heap.size := by omega
  have hne2 : ¬ wn.heap.size = br := by omega
  clear hbrn
  have T := qh (Lx.Blk.new wn 40 #[.int .u8 k, .complex .f64 (fl r1) (fl r2), .complex .f64 (fl q1) (fl q2), .string t, .int .i64 n])
  have H := qh (H.out.alloc (.cells #[.int .u8 k, .complex .f64 (fl r1) (fl r2), .complex .f64 (fl q1) (fl q2), .string t, .int .i64 n] 40))
  have HK := qh (HK.out.below ((Below.refl _ _).alloc (Nat.le_refl _) (.cells #[.int .u8 k, .complex .f64 (fl r1) (fl r2), .complex .f64 (fl q1) (fl q2), .string t, .int .i64 n] 40)))
  have HM := qh (hm_below HM.out ((Below.refl _ _).alloc (Nat.le_refl _) (.cells #[.int .u8 k, .complex .f64 (fl r1) (fl r2), .complex .f64 (fl q1) (fl q2), .string t, .int .i64 n] 40)))
  obtain ⟨lv, lok, -, hlk0⟩ := look_any br t
  have hlk := hlk0 (wn.alloc (.cells #[.int .u8 k, .complex .f64 (fl r1) (fl r2), .complex .f64 (fl q1) (fl q2), .string t, .int .i64 n] 40)) wm.heap.size HM.out
  have HLK := qh hlk
  obtain ⟨c0, c1, -, c3, -, -, -, -, -, -⟩ := T.out.tok
  go_upto_block 2 with fail
  clear c0 c1 c3 hlk hlk0
  go_cut [] from 32 to 86 (fun wc => Hid (∃ (s : List T1) (J : Nat), J ≤ 60000 ∧ j ≤ J ∧ s.length ≤ 1 ∧ PG w0 w wc br A c L J ∧ (∃ svc xsc, KG w.heap.size w.heap.size wc b ⟨46, (p1, p2), sNil, 0⟩ svc (acc ++ s) xsc) ∧ wc.heap[wm.heap.size]? = some (mapO (entsV (wordE br))) ∧ res = tokP (tT sSem) (fun _ => bindP (bodyR g bd f (acc ++ s)) (fun l => retP (mk 46 (p1, p2) sNil 0 l))) ((fun l => retP (mk 46 (p1, p2) sNil 0 l)) (acc ++ s)) L J))
  case rest =>
   obtain ⟨s, J, hJ6, hjJ, hs1, h1_, ⟨svc, xsc, h2_⟩, h3_, h4_⟩ := hcut.out
   clear H HK HM HS T HPI HKI HTX hcut hxl HLK
   have H := qh h1_
   have HK := qh h2_
   have HM := qh h3_
   have HS := qh h4_
   clear h1_ h2_ h3_ h4_
   cases hT : isT L (J) sSem with
   | false =>
     have D1 := qh (eat_no HT.out.toks (i := J) (by omega) sSem _ H.out.1 hT)
     have HS := qh (HS.out.trans (tok_n hT))
     clear hT
     go_wp2_with fail
     ((with_reducible refine (D1.out).mono ?_); rintro e wx ⟨rfl, hb⟩)
     have H := qh (H.out.trans hb)
     have HK := qh (HK.out.grown hb.2 hbr0 (Nat.le_refl _))
     have HM := qh (hm_grown HM.out hb.2 hmb)
     clear hb
     clear D1
     have HS := qh (HS.out.trans ret_)
     go_wp2
     go_ret
     rw [HS.out]
     exact ⟨b, rfl, H.out.1, H.out.2, HK.out.done (Nat.le_refl _)⟩
   | true =>
     have hjn := isT_lt hT
     have D1 := qh (eat_yes HT.out.toks (i := J) (by omega) sSem _ H.out.1 hT)
     have HS := qh (HS.out.trans (tok_y hT))
     clear hT
     go_wp2_with fail
     ((with_reducible refine (D1.out).mono ?_); rintro e wx ⟨rfl, hb⟩)
     have H := qh (H.out.trans hb)
     have HK := qh (HK.out.grown hb.2 hbr0 (Nat.le_refl _))
     have HM := qh (hm_grown HM.out hb.2 hmb)
     clear hb
     clear D1
     go_wp2
     go_roundg (L.length + 1 - (J + 1))
     case measure => omega
     case rel => exact qh ⟨⟨_, _, _, _, by omega, by rw [List.length_append]; omega, H.out, HK.out, rfl, f, by omega, by omega, by omega, HS.out⟩, HM.out⟩
  by_cases hk6 : k = 6
  ·subst hk6
   by_cases hw0 : t = sIf
   ·subst hw0
    obtain ⟨rfl, rfl⟩ := look_det HLK.out (look_yes (br := br) (t := sIf) (v := .func (.func 108) #[.pointer (some ⟨br, 0, none⟩)] #[]) (by rfl) _ _ HM.out)
    clear HLK
    have H := qh (show PG w0 w (wn.alloc (.cells #[.int .u8 6, .complex .f64 (fl r1) (fl r2), .complex .f64 (fl q1) (fl q2), .string sIf, .int .i64 n] 40)) br A c L j from H.out)
    have HK := qh (show KG w.heap.size w.heap.size (wn.alloc (.cells #[.int .u8 6, .complex .f64 (fl r1) (fl r2), .complex .f64 (fl q1) (fl q2), .string sIf, .int .i64 n] 40)) b ⟨46, (p1, p2), sNil, 0⟩ sv acc xs from HK.out)
    have HM := qh (show (wn.alloc (.cells #[.int .u8 6, .complex .f64 (fl r1) (fl r2), .complex .f64 (fl q1) (fl q2), .string sIf, .int .i64 n] 40)).heap[wm.heap.size]? = some (mapO (entsV (wordE br))) from HM.out)
    have T := qh (show Lx.Blk (wn.alloc (.cells #[.int .u8 6, .complex .f64 (fl r1) (fl r2), .complex .f64 (fl q1) (fl q2), .string sIf, .int .i64 n] 40)) wn.heap.size 40 #[.int .u8 6, .complex .f64 (fl r1) (fl r2), .complex .f64 (fl q1) (fl q2), .string sIf, .int .i64 n] from T.out)
    have HS := qh (show res = bindP (ifS g bd (r1, r2)) (fun x => tokP (tT sSem) (fun _ => bindP (bodyR g bd f (acc ++ [x])) (fun l => retP (mk 46 (p1, p2) sNil 0 l))) ((fun l => retP (mk 46 (p1, p2) sNil 0 l)) (acc ++ [x]))) L (j + 1) from HS.out.trans (by rw [stm_bind (stm_w0 HKI.out HTX.out), HPI.out]))
    have hjl : j < L.length := by
     rcases Nat.lt_or_ge j L.length with h | h
     ·exact h
     ·have := HKI.out; rw [kind_end h] at this; cases this
    have H1 := qh (H.out.set_ (j + 1))
    have HK1 := qh (HK.out.grown (H.out.1.set_ (j + 1)).2 hbr0 (Nat.le_refl _))
    have HM1 := qh (hm_grown HM.out (H.out.1.set_ (j + 1)).2 hmb)
    have T1 := qh (T.out.far (p := ⟨br, 1, none⟩) hne2 (.int .i64 ((j + 1 : Nat) : Int)))
    obtain ⟨m1, f1, hlt⟩ := H.out.1.at_
    obtain ⟨c0, c1, -, c3, -, -, -, -, -, -⟩ := T.out.tok
    have x0 : (0 : Int) ≤ (j : Int) := by omega
    go_wp2
    rw [show ((j + 1 : Nat) : Int) = (j : Int) + 1 by omega] at H1 HK1 HM1 T1
    obtain ⟨-, t1c, -, -, -, -, -, -, -, -⟩ := T1.out.tok
    have hbt := T1.out.lt
    clear m1 f1 hlt c0 c1 c3 H HK HM T T1
    generalize (wn.alloc (.cells #[.int .u8 6, .complex .f64 (fl r1) (fl r2), .complex .f64 (fl q1) (fl q2), .string sIf, .int .i64 n] 40)).setCell ⟨br, 1, none⟩ (.int .i64 ((j : Int) + 1)) = wx at *
    have H := H1
    have HK := HK1
    have HM := HM1
    clear H1 HK1 HM1
    have d1 : Calls _ _ _ _ (TreeR _ _ _ _ _ _ _ ((ifS g bd (r1, r2)) L (j + 1))) := (W0.out (j + 1) (by omega) (by omega) r1 r2 wx.drew (H.out.below ((Below.refl _ _).drew)).1)
    cases hx : (ifS g bd (r1, r2)) L (j + 1) with
    | error k9 =>
      rw [hx] at d1
      have D1 := qh d1
      have HS := qh (HS.out.trans (bind_err hx))
      clear d1 hx
      have HD_ := qh (H.out.below ((Below.refl _ _).drew))
      obtain ⟨m4, m4f, hbl4⟩ := HK.out.kn.facts
      have D1 := qh (D1.out.mono (R' := fun e w' => (∃ p, e = .returned (.pointer p) ∧ Hid False) ∨ (e = bad k9 ∧ wx.drew.grownBy w' (some br))) fun e w' h => .inr h)
      go_region_law (first
       | (go_simp; go_at_call 108; (with_reducible refine D1.out.mono ?_); rintro e x (⟨p_, rfl, hF⟩ | ⟨rfl, hb⟩); (case' inr => (refine ⟨rfl, ?_⟩; rw [HS.out]; exact ⟨rfl, grown_trans HD_.out.2 hb⟩)); have t4 : x.cell? ⟨b, 4, none⟩ = some sv := hF.out.elim; have t4f : x.frozen? ⟨b, 4, none⟩ = false := hF.out.elim; have hbx : b < x.heap.size := hF.out.elim)
       | (refine step_append_lies _ (by rfl) _ _ _ (by rfl) w.heap.size 31 i0 _ 1 8 Tryz.underlying36 hi0 hz0 hz1 hz2 rfl (by omega) sv xs.length xs hF.out.elim hF.out.elim ⟨0, 0, none⟩ 1 1 [] hF.out.elim hF.out.elim hF.out.elim hF.out.elim (by omega) hF.out.elim hF.out.elim hF.out.elim 0 hF.out.elim ?_; intro g' cap w5 hown1 hgrow hor hlt5; have s4 : w5.cell? ⟨b, 4, none⟩ = some sv := hF.out.elim; have s4f : w5.frozen? ⟨b, 4, none⟩ = false := hF.out.elim; have hb5 : b < w5.heap.size := hF.out.elim; clear hown1 hgrow hor hlt5))
      all_goals exact hF.out.elim
    | ok r =>
      obtain ⟨y, j4⟩ := r
      rw [hx] at d1
      have D1 := qh d1
      have HS := qh (HS.out.trans (bind_ok hx))
      have hj4 := Q0.out (r1, r2) (j + 1)
      rw [hx] at hj4
      simp only [posE] at hj4
      clear d1 hx
      have HD_ := qh (H.out.below ((Below.refl _ _).drew))
      have HKD := qh (HK.out.below ((Below.refl _ _).drew))
      obtain ⟨m4, m4f, hbl4⟩ := HK.out.kn.facts
      go_region_law (first
       | (go_simp; go_at_call 108; (with_reducible refine D1.out.mono ?_); rintro e x5 ⟨by_, rfl, hp, hgr, hr⟩; have HM5 := qh (hm_grown (hm_below HM.out ((Below.refl _ _).drew)) hgr hmb); have HKX := qh (HKD.out.grown hgr hbr0 (Nat.le_refl _)); have HY := qh (HKD.out.new hr (Nat.le_refl _)); have HX_ := qh (HD_.out.trans ⟨hp, hgr⟩); clear hp hgr hr; obtain ⟨t4, t4f, hbx⟩ := HKX.out.kn.facts; have Q := kid_facts (cs := #[.pointer (some ⟨by_, 0, none⟩)]) x5.heap.size rfl (Nat.le_trans HKX.out.kn.low (Nat.le_of_lt hbx)) HKX.out.kn.own hxl (one_ptr (some ⟨by_, 0, none⟩)) (by simp))
       | (refine step_append_lies _ (by rfl) _ _ _ (by rfl) w.heap.size 31 i0 _ 1 8 Tryz.underlying36 hi0 hz0 hz1 hz2 rfl (by omega) sv xs.length xs (by rfl) Q.out.2.2.2.2 ⟨x5.heap.size, 0, none⟩ 1 1 #[.pointer (some ⟨by_, 0, none⟩)].toList (by rfl) (by rfl) Q.out.1 Q.out.2.1 (by omega) Q.out.2.2.1 (by omega) Q.out.2.2.2.1 (x5.heap.size + 1) (by simp) ?_; intro g' cap w5 hown1 hgrow hor hlt5; obtain ⟨s4, s4f, hb5⟩ := KN.after (HKX.out.kn.below ((Below.refl _ _).alloc (Nat.le_refl _) _)) hgrow; have K2 := qh (KG.steps (l := [y]) (HKX.out.below ((Below.refl _ _).alloc (Nat.le_refl _) _)) (HY.out.below ((Below.refl _ _).alloc (Nat.le_refl _) _)) rfl rfl hown1 hgrow (hor.imp id fun e => e.trans (World.size_alloc _ _).symm)); have H2 := qh (PG.hung HX_.out H0.out _ hgrow (fun k e => (HKX.out.kn.own.lt _ e).1) (u := .slice (some ⟨g', 0, none⟩) (xs.length + 1) cap) HKX.out.kn.low); have HM2 := qh (hm_hung HM5.out HKX.out.kn (u := .slice (some ⟨g', 0, none⟩) (xs.length + 1) cap) hgrow); clear hown1 hgrow hor hlt5))
      all_goals
       go_wp2_with fail
       go_meet
       exact qh ⟨[y], j4, by omega, by omega, by simp, H2.out, ⟨_, _, K2.out⟩, HM2.out, HS.out⟩
   ·skip
    by_cases hw1 : t = sCase
    ·subst hw1
     obtain ⟨rfl, rfl⟩ := look_det HLK.out (look_yes (br := br) (t := sCase) (v := .func (.func 109) #[.pointer (some ⟨br, 0, none⟩)] #[]) (by rfl) _ _ HM.out)
     clear HLK
     have H := qh (show PG w0 w (wn.alloc (.cells #[.int .u8 6, .complex .f64 (fl r1) (fl r2), .complex .f64 (fl q1) (fl q2), .string sCase, .int .i64 n] 40)) br A c L j from H.out)
     have HK := qh (show KG w.heap.size w.heap.size (wn.alloc (.cells #[.int .u8 6, .complex .f64 (fl r1) (fl r2), .complex .f64 (fl q1) (fl q2), .string sCase, .int .i64 n] 40)) b ⟨46, (p1, p2), sNil, 0⟩ sv acc xs from HK.out)
     have HM := qh (show (wn.alloc (.cells #[.int .u8 6, .complex .f64 (fl r1) (fl r2), .complex .f64 (fl q1) (fl q2), .string sCase, .int .i64 n] 40)).heap[wm.heap.size]? = some (mapO (entsV (wordE br))) from HM.out)
     have T := qh (show Lx.Blk (wn.alloc (.cells #[.int .u8 6, .complex .f64 (fl r1) (fl r2), .complex .f64 (fl q1) (fl q2), .string sCase, .int .i64 n] 40)) wn.heap.size 40 #[.int .u8 6, .complex .f64 (fl r1) (fl r2), .complex .f64 (fl q1) (fl q2), .string sCase, .int .i64 n] from T.out)
     have HS := qh (show res = bindP (caseS g bd (r1, r2)) (fun x => tokP (tT sSem) (fun _ => bindP (bodyR g bd f (acc ++ [x])) (fun l => retP (mk 46 (p1, p2) sNil 0 l))) ((fun l => retP (mk 46 (p1, p2) sNil 0 l)) (acc ++ [x]))) L (j + 1) from HS.out.trans (by rw [stm_bind (stm_w1 HKI.out HTX.out), HPI.out]))
     have hjl : j < L.length := by
      rcases Nat.lt_or_ge j L.length with h | h
      ·exact h
      ·have := HKI.out; rw [kind_end h] at this; cases this
     have H1 := qh (H.out.set_ (j + 1))
     have HK1 := qh (HK.out.grown (H.out.1.set_ (j + 1)).2 hbr0 (Nat.le_refl _))
     have HM1 := qh (hm_grown HM.out (H.out.1.set_ (j + 1)).2 hmb)
     have T1 := qh (T.out.far (p := ⟨br, 1, none⟩) hne2 (.int .i64 ((j + 1 : Nat) : Int)))
     obtain ⟨m1, f1, hlt⟩ := H.out.1.at_
     obtain ⟨c0, c1, -, c3, -, -, -, -, -, -⟩ := T.out.tok
     have x0 : (0 : Int) ≤ (j : Int) := by omega
     go_wp2
     rw [show ((j + 1 : Nat) : Int) = (j : Int) + 1 by omega] at H1 HK1 HM1 T1
     obtain ⟨-, t1c, -, -, -, -, -, -, -, -⟩ := T1.out.tok
     have hbt := T1.out.lt
     clear m1 f1 hlt c0 c1 c3 H HK HM T T1
     generalize (wn.alloc (.cells #[.int .u8 6, .complex .f64 (fl r1) (fl r2), .complex .f64 (fl q1) (fl q2), .string sCase, .int .i64 n] 40)).setCell ⟨br, 1, none⟩ (.int .i64 ((j : Int) + 1)) = wx at *
     have H := H1
     have HK := HK1
     have HM := HM1
     clear H1 HK1 HM1
     have d1 : Calls _ _ _ _ (TreeR _ _ _ _ _ _ _ ((caseS g bd (r1, r2)) L (j + 1))) := (W1.out (j + 1) (by omega) (by omega) r1 r2 wx.drew (H.out.below ((Below.refl _ _).drew)).1)
     cases hx : (caseS g bd (r1, r2)) L (j + 1) with
     | error k9 =>
       rw [hx] at d1
       have D1 := qh d1
       have HS := qh (HS.out.trans (bind_err hx))
       clear d1 hx
       have HD_ := qh (H.out.below ((Below.refl _ _).drew))
       obtain ⟨m4, m4f, hbl4⟩ := HK.out.kn.facts
       have D1 := qh (D1.out.mono (R' := fun e w' => (∃ p, e = .returned (.pointer p) ∧ Hid False) ∨ (e = bad k9 ∧ wx.drew.grownBy w' (some br))) fun e w' h => .inr h)
       go_region_law (first
        | (go_simp; go_at_call 109; (with_reducible refine D1.out.mono ?_); rintro e x (⟨p_, rfl, hF⟩ | ⟨rfl, hb⟩); (case' inr => (refine ⟨rfl, ?_⟩; rw [HS.out]; exact ⟨rfl, grown_trans HD_.out.2 hb⟩)); have t4 : x.cell? ⟨b, 4, none⟩ = some sv := hF.out.elim; have t4f : x.frozen? ⟨b, 4, none⟩ = false := hF.out.elim; have hbx : b < x.heap.size := hF.out.elim)
        | (refine step_append_lies _ (by rfl) _ _ _ (by rfl) w.heap.size 31 i0 _ 1 8 Tryz.underlying36 hi0 hz0 hz1 hz2 rfl (by omega) sv xs.length xs hF.out.elim hF.out.elim ⟨0, 0, none⟩ 1 1 [] hF.out.elim hF.out.elim hF.out.elim hF.out.elim (by omega) hF.out.elim hF.out.elim hF.out.elim 0 hF.out.elim ?_; intro g' cap w5 hown1 hgrow hor hlt5; have s4 : w5.cell? ⟨b, 4, none⟩ = some sv := hF.out.elim; have s4f : w5.frozen? ⟨b, 4, none⟩ = false := hF.out.elim; have hb5 : b < w5.heap.size := hF.out.elim; clear hown1 hgrow hor hlt5))
       all_goals exact hF.out.elim
     | ok r =>
       obtain ⟨y, j4⟩ := r
       rw [hx] at d1
       have D1 := qh d1
       have HS := qh (HS.out.trans (bind_ok hx))
       have hj4 := Q1.out (r1, r2) (j + 1)
       rw [hx] at hj4
       simp only [posE] at hj4
       clear d1 hx
       have HD_ := qh (H.out.below ((Below.refl _ _).drew))
       have HKD := qh (HK.out.below ((Below.refl _ _).drew))
       obtain ⟨m4, m4f, hbl4⟩ := HK.out.kn.facts
       go_region_law (first
        | (go_simp; go_at_call 109; (with_reducible refine D1.out.mono ?_); rintro e x5 ⟨by_, rfl, hp, hgr, hr⟩; have HM5 := qh (hm_grown (hm_below HM.out ((Below.refl _ _).drew)) hgr hmb); have HKX := qh (HKD.out.grown hgr hbr0 (Nat.le_refl _)); have HY := qh (HKD.out.new hr (Nat.le_refl _)); have HX_ := qh (HD_.out.trans ⟨hp, hgr⟩); clear hp hgr hr; obtain ⟨t4, t4f, hbx⟩ := HKX.out.kn.facts; have Q := kid_facts (cs := #[.pointer (some ⟨by_, 0, none⟩)]) x5.heap.size rfl (Nat.le_trans HKX.out.kn.low (Nat.le_of_lt hbx)) HKX.out.kn.own hxl (one_ptr (some ⟨by_, 0, none⟩)) (by simp))
        | (refine step_append_lies _ (by rfl) _ _ _ (by rfl) w.heap.size 31 i0 _ 1 8 Tryz.underlying36 hi0 hz0 hz1 hz2 rfl (by omega) sv xs.length xs (by rfl) Q.out.2.2.2.2 ⟨x5.heap.size, 0, none⟩ 1 1 #[.pointer (some ⟨by_, 0, none⟩)].toList (by rfl) (by rfl) Q.out.1 Q.out.2.1 (by omega) Q.out.2.2.1 (by omega) Q.out.2.2.2.1 (x5.heap.size + 1) (by simp) ?_; intro g' cap w5 hown1 hgrow hor hlt5; obtain ⟨s4, s4f, hb5⟩ := KN.after (HKX.out.kn.below ((Below.refl _ _).alloc (Nat.le_refl _) _)) hgrow; have K2 := qh (KG.steps (l := [y]) (HKX.out.below ((Below.refl _ _).alloc (Nat.le_refl _) _)) (HY.out.below ((Below.refl _ _).alloc (Nat.le_refl _) _)) rfl rfl hown1 hgrow (hor.imp id fun e => e.trans (World.size_alloc _ _).symm)); have H2 := qh (PG.hung HX_.out H0.out _ hgrow (fun k e => (HKX.out.kn.own.lt _ e).1) (u := .slice (some ⟨g', 0, none⟩) (xs.length + 1) cap) HKX.out.kn.low); have HM2 := qh (hm_hung HM5.out HKX.out.kn (u := .slice (some ⟨g', 0, none⟩) (xs.length + 1) cap) hgrow); clear hown1 hgrow hor hlt5))
       all_goals
        go_wp2_with fail
        go_meet
        exact qh ⟨[y], j4, by omega, by omega, by simp, H2.out, ⟨_, _, K2.out⟩, HM2.out, HS.out⟩
    ·skip
     by_cases hw2 : t = sWhile
     ·subst hw2
      obtain ⟨rfl, rfl⟩ := look_det HLK.out (look_yes (br := br) (t := sWhile) (v := .func (.func 110) #[.pointer (some ⟨br, 0, none⟩)] #[]) (by rfl) _ _ HM.out)
      clear HLK
      have H := qh (show PG w0 w (wn.alloc (.cells #[.int .u8 6, .complex .f64 (fl r1) (fl r2), .complex .f64 (fl q1) (fl q2), .string sWhile, .int .i64 n] 40)) br A c L j from H.out)
      have HK := qh (show KG w.heap.size w.heap.size (wn.alloc (.cells #[.int .u8 6, .complex .f64 (fl r1) (fl r2), .complex .f64 (fl q1) (fl q2), .string sWhile, .int .i64 n] 40)) b ⟨46, (p1, p2), sNil, 0⟩ sv acc xs from HK.out)
      have HM := qh (show (wn.alloc (.cells #[.int .u8 6, .complex .f64 (fl r1) (fl r2), .complex .f64 (fl q1) (fl q2), .string sWhile, .int .i64 n] 40)).heap[wm.heap.size]? = some (mapO (entsV (wordE br))) from HM.out)
      have T := qh (show Lx.Blk (wn.alloc (.cells #[.int .u8 6, .complex .f64 (fl r1) (fl r2), .complex .f64 (fl q1) (fl q2), .string sWhile, .int .i64 n] 40)) wn.heap.size 40 #[.int .u8 6, .complex .f64 (fl r1) (fl r2), .complex .f64 (fl q1) (fl q2), .string sWhile, .int .i64 n] from T.out)
      have HS := qh (show res = bindP (whileS g bd (r1, r2)) (fun x => tokP (tT sSem) (fun _ => bindP (bodyR g bd f (acc ++ [x])) (fun l => retP (mk 46 (p1, p2) sNil 0 l))) ((fun l => retP (mk 46 (p1, p2) sNil 0 l)) (acc ++ [x]))) L (j + 1) from HS.out.trans (by rw [stm_bind (stm_w2 HKI.out HTX.out), HPI.out]))
      have hjl : j < L.length := by
       rcases Nat.lt_or_ge j L.length with h | h
       ·exact h
       ·have := HKI.out; rw [kind_end h] at this; cases this
      have H1 := qh (H.out.set_ (j + 1))
      have HK1 := qh (HK.out.grown (H.out.1.set_ (j + 1)).2 hbr0 (Nat.le_refl _))
      have HM1 := qh (hm_grown HM.out (H.out.1.set_ (j + 1)).2 hmb)
      have T1 := qh (T.out.far (p := ⟨br, 1, none⟩) hne2 (.int .i64 ((j + 1 : Nat) : Int)))
      obtain ⟨m1, f1, hlt⟩ := H.out.1.at_
      obtain ⟨c0, c1, -, c3, -, -, -, -, -, -⟩ := T.out.tok
      have x0 : (0 : Int) ≤ (j : Int) := by omega
      go_wp2
      rw [show ((j + 1 : Nat) : Int) = (j : Int) + 1 by omega] at H1 HK1 HM1 T1
      obtain ⟨-, t1c, -, -, -, -, -, -, -, -⟩ := T1.out.tok
      have hbt := T1.out.lt
      clear m1 f1 hlt c0 c1 c3 H HK HM T T1
      generalize (wn.alloc (.cells #[.int .u8 6, .complex .f64 (fl r1) (fl r2), .complex .f64 (fl q1) (fl q2), .string sWhile, .int .i64 n] 40)).setCell ⟨br, 1, none⟩ (.int .i64 ((j : Int) + 1)) = wx at *
      have H := H1
      have HK := HK1
      have HM := HM1
      clear H1 HK1 HM1
      have d1 : Calls _ _ _ _ (TreeR _ _ _ _ _ _ _ ((whileS g bd (r1, r2)) L (j + 1))) := (W2.out (j + 1) (by omega) (by omega) r1 r2 wx.drew (H.out.below ((Below.refl _ _).drew)).1)
      cases hx : (whileS g bd (r1, r2)) L (j + 1) with
      | error k9 =>
        rw [hx] at d1
        have D1 := qh d1
        have HS := qh (HS.out.trans (bind_err hx))
        clear d1 hx
        have HD_ := qh (H.out.below ((Below.refl _ _).drew))
        obtain ⟨m4, m4f, hbl4⟩ := HK.out.kn.facts
        have D1 := qh (D1.out.mono (R' := fun e w' => (∃ p, e = .returned (.pointer p) ∧ Hid False) ∨ (e = bad k9 ∧ wx.drew.grownBy w' (some br))) fun e w' h => .inr h)
        go_region_law (first
         | (go_simp; go_at_call 110; (with_reducible refine D1.out.mono ?_); rintro e x (⟨p_, rfl, hF⟩ | ⟨rfl, hb⟩); (case' inr => (refine ⟨rfl, ?_⟩; rw [HS.out]; exact ⟨rfl, grown_trans HD_.out.2 hb⟩)); have t4 : x.cell? ⟨b, 4, none⟩ = some sv := hF.out.elim; have t4f : x.frozen? ⟨b, 4, none⟩ = false := hF.out.elim; have hbx : b < x.heap.size := hF.out.elim)
         | (refine step_append_lies _ (by rfl) _ _ _ (by rfl) w.heap.size 31 i0 _ 1 8 Tryz.underlying36 hi0 hz0 hz1 hz2 rfl (by omega) sv xs.length xs hF.out.elim hF.out.elim ⟨0, 0, none⟩ 1 1 [] hF.out.elim hF.out.elim hF.out.elim hF.out.elim (by omega) hF.out.elim hF.out.elim hF.out.elim 0 hF.out.elim ?_; intro g' cap w5 hown1 hgrow hor hlt5; have s4 : w5.cell? ⟨b, 4, none⟩ = some sv := hF.out.elim; have s4f : w5.frozen? ⟨b, 4, none⟩ = false := hF.out.elim; have hb5 : b < w5.heap.size := hF.out.elim; clear hown1 hgrow hor hlt5))
        all_goals exact hF.out.elim
      | ok r =>
        obtain ⟨y, j4⟩ := r
        rw [hx] at d1
        have D1 := qh d1
        have HS := qh (HS.out.trans (bind_ok hx))
        have hj4 := Q2.out (r1, r2) (j + 1)
        rw [hx] at hj4
        simp only [posE] at hj4
        clear d1 hx
        have HD_ := qh (H.out.below ((Below.refl _ _).drew))
        have HKD := qh (HK.out.below ((Below.refl _ _).drew))
        obtain ⟨m4, m4f, hbl4⟩ := HK.out.kn.facts
        go_region_law (first
         | (go_simp; go_at_call 110; (with_reducible refine D1.out.mono ?_); rintro e x5 ⟨by_, rfl, hp, hgr, hr⟩; have HM5 := qh (hm_grown (hm_below HM.out ((Below.refl _ _).drew)) hgr hmb); have HKX := qh (HKD.out.grown hgr hbr0 (Nat.le_refl _)); have HY := qh (HKD.out.new hr (Nat.le_refl _)); have HX_ := qh (HD_.out.trans ⟨hp, hgr⟩); clear hp hgr hr; obtain ⟨t4, t4f, hbx⟩ := HKX.out.kn.facts; have Q := kid_facts (cs := #[.pointer (some ⟨by_, 0, none⟩)]) x5.heap.size rfl (Nat.le_trans HKX.out.kn.low (Nat.le_of_lt hbx)) HKX.out.kn.own hxl (one_ptr (some ⟨by_, 0, none⟩)) (by simp))
         | (refine step_append_lies _ (by rfl) _ _ _ (by rfl) w.heap.size 31 i0 _ 1 8 Tryz.underlying36 hi0 hz0 hz1 hz2 rfl (by omega) sv xs.length xs (by rfl) Q.out.2.2.2.2 ⟨x5.heap.size, 0, none⟩ 1 1 #[.pointer (some ⟨by_, 0, none⟩)].toList (by rfl) (by rfl) Q.out.1 Q.out.2.1 (by omega) Q.out.2.2.1 (by omega) Q.out.2.2.2.1 (x5.heap.size + 1) (by simp) ?_; intro g' cap w5 hown1 hgrow hor hlt5; obtain ⟨s4, s4f, hb5⟩ := KN.after (HKX.out.kn.below ((Below.refl _ _).alloc (Nat.le_refl _) _)) hgrow; have K2 := qh (KG.steps (l := [y]) (HKX.out.below ((Below.refl _ _).alloc (Nat.le_refl _) _)) (HY.out.below ((Below.refl _ _).alloc (Nat.le_refl _) _)) rfl rfl hown1 hgrow (hor.imp id fun e => e.trans (World.size_alloc _ _).symm)); have H2 := qh (PG.hung HX_.out H0.out _ hgrow (fun k e => (HKX.out.kn.own.lt _ e).1) (u := .slice (some ⟨g', 0, none⟩) (xs.length + 1) cap) HKX.out.kn.low); have HM2 := qh (hm_hung HM5.out HKX.out.kn (u := .slice (some ⟨g', 0, none⟩) (xs.length + 1) cap) hgrow); clear hown1 hgrow hor hlt5))
        all_goals
         go_wp2_with fail
         go_meet
         exact qh ⟨[y], j4, by omega, by omega, by simp, H2.out, ⟨_, _, K2.out⟩, HM2.out, HS.out⟩
     ·skip
      by_cases hw3 : t = sRepeat
      ·subst hw3
       obtain ⟨rfl, rfl⟩ := look_det HLK.out (look_yes (br := br) (t := sRepeat) (v := .func (.func 111) #[.pointer (some ⟨br, 0, none⟩)] #[]) (by rfl) _ _ HM.out)
       clear HLK
       have H := qh (show PG w0 w (wn.alloc (.cells #[.int .u8 6, .complex .f64 (fl r1) (fl r2), .complex .f64 (fl q1) (fl q2), .string sRepeat, .int .i64 n] 40)) br A c L j from H.out)
       have HK := qh (show KG w.heap.size w.heap.size (wn.alloc (.cells #[.int .u8 6, .complex .f64 (fl r1) (fl r2), .complex .f64 (fl q1) (fl q2), .string sRepeat, .int .i64 n] 40)) b ⟨46, (p1, p2), sNil, 0⟩ sv acc xs from HK.out)
       have HM := qh (show (wn.alloc (.cells #[.int .u8 6, .complex .f64 (fl r1) (fl r2), .complex .f64 (fl q1) (fl q2), .string sRepeat, .int .i64 n] 40)).heap[wm.heap.size]? = some (mapO (entsV (wordE br))) from HM.out)
       have T := qh (show Lx.Blk (wn.alloc (.cells #[.int .u8 6, .complex .f64 (fl r1) (fl r2), .complex .f64 (fl q1) (fl q2), .string sRepeat, .int .i64 n] 40)) wn.heap.size 40 #[.int .u8 6, .complex .f64 (fl r1) (fl r2), .complex .f64 (fl q1) (fl q2), .string sRepeat, .int .i64 n] from T.out)
       have HS := qh (show res = bindP (repS g bd (r1, r2)) (fun x => tokP (tT sSem) (fun _ => bindP (bodyR g bd f (acc ++ [x])) (fun l => retP (mk 46 (p1, p2) sNil 0 l))) ((fun l => retP (mk 46 (p1, p2) sNil 0 l)) (acc ++ [x]))) L (j + 1) from HS.out.trans (by rw [stm_bind (stm_w3 HKI.out HTX.out), HPI.out]))
       have hjl : j < L.length := by
        rcases Nat.lt_or_ge j L.length with h | h
        ·exact h
        ·have := HKI.out; rw [kind_end h] at this; cases this
       have H1 := qh (H.out.set_ (j + 1))
       have HK1 := qh (HK.out.grown (H.out.1.set_ (j + 1)).2 hbr0 (Nat.le_refl _))
       have HM1 := qh (hm_grown HM.out (H.out.1.set_ (j + 1)).2 hmb)
       have T1 := qh (T.out.far (p := ⟨br, 1, none⟩) hne2 (.int .i64 ((j + 1 : Nat) : Int)))
       obtain ⟨m1, f1, hlt⟩ := H.out.1.at_
       obtain ⟨c0, c1, -, c3, -, -, -, -, -, -⟩ := T.out.tok
       have x0 : (0 : Int) ≤ (j : Int) := by omega
       go_wp2
       rw [show ((j + 1 : Nat) : Int) = (j : Int) + 1 by omega] at H1 HK1 HM1 T1
       obtain ⟨-, t1c, -, -, -, -, -, -, -, -⟩ := T1.out.tok
       have hbt := T1.out.lt
       clear m1 f1 hlt c0 c1 c3 H HK HM T T1
       generalize (wn.alloc (.cells #[.int .u8 6, .complex .f64 (fl r1) (fl r2), .complex .f64 (fl q1) (fl q2), .string sRepeat, .int .i64 n] 40)).setCell ⟨br, 1, none⟩ (.int .i64 ((j : Int) + 1)) = wx at *
       have H := H1
       have HK := HK1
       have HM := HM1
       clear H1 HK1 HM1
       have d1 : Calls _ _ _ _ (TreeR _ _ _ _ _ _ _ ((repS g bd (r1, r2)) L (j + 1))) := (W3.out (j + 1) (by omega) (by omega) r1 r2 wx.drew (H.out.below ((Below.refl _ _).drew)).1)
       cases hx : (repS g bd (r1, r2)) L (j + 1) with
       | error k9 =>
         rw [hx] at d1
         have D1 := qh d1
         have HS := qh (HS.out.trans (bind_err hx))
         clear d1 hx
         have HD_ := qh (H.out.below ((Below.refl _ _).drew))
         obtain ⟨m4, m4f, hbl4⟩ := HK.out.kn.facts
         have D1 := qh (D1.out.mono (R' := fun e w' => (∃ p, e = .returned (.pointer p) ∧ Hid False) ∨ (e = bad k9 ∧ wx.drew.grownBy w' (some br))) fun e w' h => .inr h)
         go_region_law (first
          | (go_simp; go_at_call 111; (with_reducible refine D1.out.mono ?_); rintro e x (⟨p_, rfl, hF⟩ | ⟨rfl, hb⟩); (case' inr => (refine ⟨rfl, ?_⟩; rw [HS.out]; exact ⟨rfl, grown_trans HD_.out.2 hb⟩)); have t4 : x.cell? ⟨b, 4, none⟩ = some sv := hF.out.elim; have t4f : x.frozen? ⟨b, 4, none⟩ = false := hF.out.elim; have hbx : b < x.heap.size := hF.out.elim)
          | (refine step_append_lies _ (by rfl) _ _ _ (by rfl) w.heap.size 31 i0 _ 1 8 Tryz.underlying36 hi0 hz0 hz1 hz2 rfl (by omega) sv xs.length xs hF.out.elim hF.out.elim ⟨0, 0, none⟩ 1 1 [] hF.out.elim hF.out.elim hF.out.elim hF.out.elim (by omega) hF.out.elim hF.out.elim hF.out.elim 0 hF.out.elim ?_; intro g' cap w5 hown1 hgrow hor hlt5; have s4 : w5.cell? ⟨b, 4, none⟩ = some sv := hF.out.elim; have s4f : w5.frozen? ⟨b, 4, none⟩ = false := hF.out.elim; have hb5 : b < w5.heap.size := hF.out.elim; clear hown1 hgrow hor hlt5))
         all_goals exact hF.out.elim
       | ok r =>
         obtain ⟨y, j4⟩ := r
         rw [hx] at d1
         have D1 := qh d1
         have HS := qh (HS.out.trans (bind_ok hx))
         have hj4 := Q3.out (r1, r2) (j + 1)
         rw [hx] at hj4
         simp only [posE] at hj4
         clear d1 hx
         have HD_ := qh (H.out.below ((Below.refl _ _).drew))
         have HKD := qh (HK.out.below ((Below.refl _ _).drew))
         obtain ⟨m4, m4f, hbl4⟩ := HK.out.kn.facts
         go_region_law (first
          | (go_simp; go_at_call 111; (with_reducible refine D1.out.mono ?_); rintro e x5 ⟨by_, rfl, hp, hgr, hr⟩; have HM5 := qh (hm_grown (hm_below HM.out ((Below.refl _ _).drew)) hgr hmb); have HKX := qh (HKD.out.grown hgr hbr0 (Nat.le_refl _)); have HY := qh (HKD.out.new hr (Nat.le_refl _)); have HX_ := qh (HD_.out.trans ⟨hp, hgr⟩); clear hp hgr hr; obtain ⟨t4, t4f, hbx⟩ := HKX.out.kn.facts; have Q := kid_facts (cs := #[.pointer (some ⟨by_, 0, none⟩)]) x5.heap.size rfl (Nat.le_trans HKX.out.kn.low (Nat.le_of_lt hbx)) HKX.out.kn.own hxl (one_ptr (some ⟨by_, 0, none⟩)) (by simp))
          | (refine step_append_lies _ (by rfl) _ _ _ (by rfl) w.heap.size 31 i0 _ 1 8 Tryz.underlying36 hi0 hz0 hz1 hz2 rfl (by omega) sv xs.length xs (by rfl) Q.out.2.2.2.2 ⟨x5.heap.size, 0, none⟩ 1 1 #[.pointer (some ⟨by_, 0, none⟩)].toList (by rfl) (by rfl) Q.out.1 Q.out.2.1 (by omega) Q.out.2.2.1 (by omega) Q.out.2.2.2.1 (x5.heap.size + 1) (by simp) ?_; intro g' cap w5 hown1 hgrow hor hlt5; obtain ⟨s4, s4f, hb5⟩ := KN.after (HKX.out.kn.below ((Below.refl _ _).alloc (Nat.le_refl _) _)) hgrow; have K2 := qh (KG.steps (l := [y]) (HKX.out.below ((Below.refl _ _).alloc (Nat.le_refl _) _)) (HY.out.below ((Below.refl _ _).alloc (Nat.le_refl _) _)) rfl rfl hown1 hgrow (hor.imp id fun e => e.trans (World.size_alloc _ _).symm)); have H2 := qh (PG.hung HX_.out H0.out _ hgrow (fun k e => (HKX.out.kn.own.lt _ e).1) (u := .slice (some ⟨g', 0, none⟩) (xs.length + 1) cap) HKX.out.kn.low); have HM2 := qh (hm_hung HM5.out HKX.out.kn (u := .slice (some ⟨g', 0, none⟩) (xs.length + 1) cap) hgrow); clear hown1 hgrow hor hlt5))
         all_goals
          go_wp2_with fail
          go_meet
          exact qh ⟨[y], j4, by omega, by omega, by simp, H2.out, ⟨_, _, K2.out⟩, HM2.out, HS.out⟩
      ·skip
       by_cases hw4 : t = sLoop
       ·subst hw4
        obtain ⟨rfl, rfl⟩ := look_det HLK.out (look_yes (br := br) (t := sLoop) (v := .func (.func 112) #[.pointer (some ⟨br, 0, none⟩)] #[]) (by rfl) _ _ HM.out)
        clear HLK
        have H := qh (show PG w0 w (wn.alloc (.cells #[.int .u8 6, .complex .f64 (fl r1) (fl r2), .complex .f64 (fl q1) (fl q2), .string sLoop, .int .i64 n] 40)) br A c L j from H.out)
        have HK := qh (show KG w.heap.size w.heap.size (wn.alloc (.cells #[.int .u8 6, .complex .f64 (fl r1) (fl r2), .complex .f64 (fl q1) (fl q2), .string sLoop, .int .i64 n] 40)) b ⟨46, (p1, p2), sNil, 0⟩ sv acc xs from HK.out)
        have HM := qh (show (wn.alloc (.cells #[.int .u8 6, .complex .f64 (fl r1) (fl r2), .complex .f64 (fl q1) (fl q2), .string sLoop, .int .i64 n] 40)).heap[wm.heap.size]? = some (mapO (entsV (wordE br))) from HM.out)
        have T := qh (show Lx.Blk (wn.alloc (.cells #[.int .u8 6, .complex .f64 (fl r1) (fl r2), .complex .f64 (fl q1) (fl q2), .string sLoop, .int .i64 n] 40)) wn.heap.size 40 #[.int .u8 6, .complex .f64 (fl r1) (fl r2), .complex .f64 (fl q1) (fl q2), .string sLoop, .int .i64 n] from T.out)
        have HS := qh (show res = bindP (loopS bd (r1, r2)) (fun x => tokP (tT sSem) (fun _ => bindP (bodyR g bd f (acc ++ [x])) (fun l => retP (mk 46 (p1, p2) sNil 0 l))) ((fun l => retP (mk 46 (p1, p2) sNil 0 l)) (acc ++ [x]))) L (j + 1) from HS.out.trans (by rw [stm_bind (stm_w4 HKI.out HTX.out), HPI.out]))
        have hjl : j < L.length := by
         rcases Nat.lt_or_ge j L.length with h | h
         ·exact h
         ·have := HKI.out; rw [kind_end h] at this; cases this
        have H1 := qh (H.out.set_ (j + 1))
        have HK1 := qh (HK.out.grown (H.out.1.set_ (j + 1)).2 hbr0 (Nat.le_refl _))
        have HM1 := qh (hm_grown HM.out (H.out.1.set_ (j + 1)).2 hmb)
        have T1 := qh (T.out.far (p := ⟨br, 1, none⟩) hne2 (.int .i64 ((j + 1 : Nat) : Int)))
        obtain ⟨m1, f1, hlt⟩ := H.out.1.at_
        obtain ⟨c0, c1, -, c3, -, -, -, -, -, -⟩ := T.out.tok
        have x0 : (0 : Int) ≤ (j : Int) := by omega
        go_wp2
        rw [show ((j + 1 : Nat) : Int) = (j : Int) + 1 by omega] at H1 HK1 HM1 T1
        obtain ⟨-, t1c, -, -, -, -, -, -, -, -⟩ := T1.out.tok
        have hbt := T1.out.lt
        clear m1 f1 hlt c0 c1 c3 H HK HM T T1
        generalize (wn.alloc (.cells #[.int .u8 6, .complex .f64 (fl r1) (fl r2), .complex .f64 (fl q1) (fl q2), .string sLoop, .int .i64 n] 40)).setCell ⟨br, 1, none⟩ (.int .i64 ((j : Int) + 1)) = wx at *
        have H := H1
        have HK := HK1
        have HM := HM1
        clear H1 HK1 HM1
        have d1 : Calls _ _ _ _ (TreeR _ _ _ _ _ _ _ ((loopS bd (r1, r2)) L (j + 1))) := (W4.out (j + 1) (by omega) (by omega) r1 r2 wx.drew (H.out.below ((Below.refl _ _).drew)).1)
        cases hx : (loopS bd (r1, r2)) L (j + 1) with
        | error k9 =>
          rw [hx] at d1
          have D1 := qh d1
          have HS := qh (HS.out.trans (bind_err hx))
          clear d1 hx
          have HD_ := qh (H.out.below ((Below.refl _ _).drew))
          obtain ⟨m4, m4f, hbl4⟩ := HK.out.kn.facts
          have D1 := qh (D1.out.mono (R' := fun e w' => (∃ p, e = .returned (.pointer p) ∧ Hid False) ∨ (e = bad k9 ∧ wx.drew.grownBy w' (some br))) fun e w' h => .inr h)
          go_region_law (first
           | (go_simp; go_at_call 112; (with_reducible refine D1.out.mono ?_); rintro e x (⟨p_, rfl, hF⟩ | ⟨rfl, hb⟩); (case' inr => (refine ⟨rfl, ?_⟩; rw [HS.out]; exact ⟨rfl, grown_trans HD_.out.2 hb⟩)); have t4 : x.cell? ⟨b, 4, none⟩ = some sv := hF.out.elim; have t4f : x.frozen? ⟨b, 4, none⟩ = false := hF.out.elim; have hbx : b < x.heap.size := hF.out.elim)
           | (refine step_append_lies _ (by rfl) _ _ _ (by rfl) w.heap.size 31 i0 _ 1 8 Tryz.underlying36 hi0 hz0 hz1 hz2 rfl (by omega) sv xs.length xs hF.out.elim hF.out.elim ⟨0, 0, none⟩ 1 1 [] hF.out.elim hF.out.elim hF.out.elim hF.out.elim (by omega) hF.out.elim hF.out.elim hF.out.elim 0 hF.out.elim ?_; intro g' cap w5 hown1 hgrow hor hlt5; have s4 : w5.cell? ⟨b, 4, none⟩ = some sv := hF.out.elim; have s4f : w5.frozen? ⟨b, 4, none⟩ = false := hF.out.elim; have hb5 : b < w5.heap.size := hF.out.elim; clear hown1 hgrow hor hlt5))
          all_goals exact hF.out.elim
        | ok r =>
          obtain ⟨y, j4⟩ := r
          rw [hx] at d1
          have D1 := qh d1
          have HS := qh (HS.out.trans (bind_ok hx))
          have hj4 := Q4.out (r1, r2) (j + 1)
          rw [hx] at hj4
          simp only [posE] at hj4
          clear d1 hx
          have HD_ := qh (H.out.below ((Below.refl _ _).drew))
          have HKD := qh (HK.out.below ((Below.refl _ _).drew))
          obtain ⟨m4, m4f, hbl4⟩ := HK.out.kn.facts
          go_region_law (first
           | (go_simp; go_at_call 112; (with_reducible refine D1.out.mono ?_); rintro e x5 ⟨by_, rfl, hp, hgr, hr⟩; have HM5 := qh (hm_grown (hm_below HM.out ((Below.refl _ _).drew)) hgr hmb); have HKX := qh (HKD.out.grown hgr hbr0 (Nat.le_refl _)); have HY := qh (HKD.out.new hr (Nat.le_refl _)); have HX_ := qh (HD_.out.trans ⟨hp, hgr⟩); clear hp hgr hr; obtain ⟨t4, t4f, hbx⟩ := HKX.out.kn.facts; have Q := kid_facts (cs := #[.pointer (some ⟨by_, 0, none⟩)]) x5.heap.size rfl (Nat.le_trans HKX.out.kn.low (Nat.le_of_lt hbx)) HKX.out.kn.own hxl (one_ptr (some ⟨by_, 0, none⟩)) (by simp))
           | (refine step_append_lies _ (by rfl) _ _ _ (by rfl) w.heap.size 31 i0 _ 1 8 Tryz.underlying36 hi0 hz0 hz1 hz2 rfl (by omega) sv xs.length xs (by rfl) Q.out.2.2.2.2 ⟨x5.heap.size, 0, none⟩ 1 1 #[.pointer (some ⟨by_, 0, none⟩)].toList (by rfl) (by rfl) Q.out.1 Q.out.2.1 (by omega) Q.out.2.2.1 (by omega) Q.out.2.2.2.1 (x5.heap.size + 1) (by simp) ?_; intro g' cap w5 hown1 hgrow hor hlt5; obtain ⟨s4, s4f, hb5⟩ := KN.after (HKX.out.kn.below ((Below.refl _ _).alloc (Nat.le_refl _) _)) hgrow; have K2 := qh (KG.steps (l := [y]) (HKX.out.below ((Below.refl _ _).alloc (Nat.le_refl _) _)) (HY.out.below ((Below.refl _ _).alloc (Nat.le_refl _) _)) rfl rfl hown1 hgrow (hor.imp id fun e => e.trans (World.size_alloc _ _).symm)); have H2 := qh (PG.hung HX_.out H0.out _ hgrow (fun k e => (HKX.out.kn.own.lt _ e).1) (u := .slice (some ⟨g', 0, none⟩) (xs.length + 1) cap) HKX.out.kn.low); have HM2 := qh (hm_hung HM5.out HKX.out.kn (u := .slice (some ⟨g', 0, none⟩) (xs.length + 1) cap) hgrow); clear hown1 hgrow hor hlt5))
          all_goals
           go_wp2_with fail
           go_meet
           exact qh ⟨[y], j4, by omega, by omega, by simp, H2.out, ⟨_, _, K2.out⟩, HM2.out, HS.out⟩
       ·skip
        by_cases hw5 : t = sExit
        ·subst hw5
         obtain ⟨rfl, rfl⟩ := look_det HLK.out (look_yes (br := br) (t := sExit) (v := .func (.func 113) #[.pointer (some ⟨br, 0, none⟩)] #[]) (by rfl) _ _ HM.out)
         clear HLK
         have H := qh (show PG w0 w (wn.alloc (.cells #[.int .u8 6, .complex .f64 (fl r1) (fl r2), .complex .f64 (fl q1) (fl q2), .string sExit, .int .i64 n] 40)) br A c L j from H.out)
         have HK := qh (show KG w.heap.size w.heap.size (wn.alloc (.cells #[.int .u8 6, .complex .f64 (fl r1) (fl r2), .complex .f64 (fl q1) (fl q2), .string sExit, .int .i64 n] 40)) b ⟨46, (p1, p2), sNil, 0⟩ sv acc xs from HK.out)
         have HM := qh (show (wn.alloc (.cells #[.int .u8 6, .complex .f64 (fl r1) (fl r2), .complex .f64 (fl q1) (fl q2), .string sExit, .int .i64 n] 40)).heap[wm.heap.size]? = some (mapO (entsV (wordE br))) from HM.out)
         have T := qh (show Lx.Blk (wn.alloc (.cells #[.int .u8 6, .complex .f64 (fl r1) (fl r2), .complex .f64 (fl q1) (fl q2), .string sExit, .int .i64 n] 40)) wn.heap.size 40 #[.int .u8 6, .complex .f64 (fl r1) (fl r2), .complex .f64 (fl q1) (fl q2), .string sExit, .int .i64 n] from T.out)
         have HS := qh (show res = bindP (exitS (r1, r2)) (fun x => tokP (tT sSem) (fun _ => bindP (bodyR g bd f (acc ++ [x])) (fun l => retP (mk 46 (p1, p2) sNil 0 l))) ((fun l => retP (mk 46 (p1, p2) sNil 0 l)) (acc ++ [x]))) L (j + 1) from HS.out.trans (by rw [stm_bind (stm_w5 HKI.out HTX.out), HPI.out]))
         have hjl : j < L.length := by
          rcases Nat.lt_or_ge j L.length with h | h
          ·exact h
          ·have := HKI.out; rw [kind_end h] at this; cases this
         have H1 := qh (H.out.set_ (j + 1))
         have HK1 := qh (HK.out.grown (H.out.1.set_ (j + 1)).2 hbr0 (Nat.le_refl _))
         have HM1 := qh (hm_grown HM.out (H.out.1.set_ (j + 1)).2 hmb)
         have T1 := qh (T.out.far (p := ⟨br, 1, none⟩) hne2 (.int .i64 ((j + 1 : Nat) : Int)))
         obtain ⟨m1, f1, hlt⟩ := H.out.1.at_
         obtain ⟨c0, c1, -, c3, -, -, -, -, -, -⟩ := T.out.tok
         have x0 : (0 : Int) ≤ (j : Int) := by omega
         go_wp2
         rw [show ((j + 1 : Nat) : Int) = (j : Int) + 1 by omega] at H1 HK1 HM1 T1
         obtain ⟨-, t1c, -, -, -, -, -, -, -, -⟩ := T1.out.tok
         have hbt := T1.out.lt
         clear m1 f1 hlt c0 c1 c3 H HK HM T T1
         generalize (wn.alloc (.cells #[.int .u8 6, .complex .f64 (fl r1) (fl r2), .complex .f64 (fl q1) (fl q2), .string sExit, .int .i64 n] 40)).setCell ⟨br, 1, none⟩ (.int .i64 ((j : Int) + 1)) = wx at *
         have H := H1
         have HK := HK1
         have HM := HM1
         clear H1 HK1 HM1
         have d1 : Calls _ _ _ _ (TreeR _ _ _ _ _ _ _ ((exitS (r1, r2)) L (j + 1))) := (W5.out (j + 1) (by omega) (by omega) r1 r2 wx.drew (H.out.below ((Below.refl _ _).drew)).1)
         cases hx : (exitS (r1, r2)) L (j + 1) with
         | error k9 =>
           rw [hx] at d1
           have D1 := qh d1
           have HS := qh (HS.out.trans (bind_err hx))
           clear d1 hx
           have HD_ := qh (H.out.below ((Below.refl _ _).drew))
           obtain ⟨m4, m4f, hbl4⟩ := HK.out.kn.facts
           have D1 := qh (D1.out.mono (R' := fun e w' => (∃ p, e = .returned (.pointer p) ∧ Hid False) ∨ (e = bad k9 ∧ wx.drew.grownBy w' (some br))) fun e w' h => .inr h)
           go_region_law (first
            | (go_simp; go_at_call 113; (with_reducible refine D1.out.mono ?_); rintro e x (⟨p_, rfl, hF⟩ | ⟨rfl, hb⟩); (case' inr => (refine ⟨rfl, ?_⟩; rw [HS.out]; exact ⟨rfl, grown_trans HD_.out.2 hb⟩)); have t4 : x.cell? ⟨b, 4, none⟩ = some sv := hF.out.elim; have t4f : x.frozen? ⟨b, 4, none⟩ = false := hF.out.elim; have hbx : b < x.heap.size := hF.out.elim)
            | (refine step_append_lies _ (by rfl) _ _ _ (by rfl) w.heap.size 31 i0 _ 1 8 Tryz.underlying36 hi0 hz0 hz1 hz2 rfl (by omega) sv xs.length xs hF.out.elim hF.out.elim ⟨0, 0, none⟩ 1 1 [] hF.out.elim hF.out.elim hF.out.elim hF.out.elim (by omega) hF.out.elim hF.out.elim hF.out.elim 0 hF.out.elim ?_; intro g' cap w5 hown1 hgrow hor hlt5; have s4 : w5.cell? ⟨b, 4, none⟩ = some sv := hF.out.elim; have s4f : w5.frozen? ⟨b, 4, none⟩ = false := hF.out.elim; have hb5 : b < w5.heap.size := hF.out.elim; clear hown1 hgrow hor hlt5))
           all_goals exact hF.out.elim
         | ok r =>
           obtain ⟨y, j4⟩ := r
           rw [hx] at d1
           have D1 := qh d1
           have HS := qh (HS.out.trans (bind_ok hx))
           have hj4 := Q5.out (r1, r2) (j + 1)
           rw [hx] at hj4
           simp only [posE] at hj4
           clear d1 hx
           have HD_ := qh (H.out.below ((Below.refl _ _).drew))
           have HKD := qh (HK.out.below ((Below.refl _ _).drew))
           obtain ⟨m4, m4f, hbl4⟩ := HK.out.kn.facts
           go_region_law (first
            | (go_simp; go_at_call 113; (with_reducible refine D1.out.mono ?_); rintro e x5 ⟨by_, rfl, hp, hgr, hr⟩; have HM5 := qh (hm_grown (hm_below HM.out ((Below.refl _ _).drew)) hgr hmb); have HKX := qh (HKD.out.grown hgr hbr0 (Nat.le_refl _)); have HY := qh (HKD.out.new hr (Nat.le_refl _)); have HX_ := qh (HD_.out.trans ⟨hp, hgr⟩); clear hp hgr hr; obtain ⟨t4, t4f, hbx⟩ := HKX.out.kn.facts; have Q := kid_facts (cs := #[.pointer (some ⟨by_, 0, none⟩)]) x5.heap.size rfl (Nat.le_trans HKX.out.kn.low (Nat.le_of_lt hbx)) HKX.out.kn.own hxl (one_ptr (some ⟨by_, 0, none⟩)) (by simp))
            | (refine step_append_lies _ (by rfl) _ _ _ (by rfl) w.heap.size 31 i0 _ 1 8 Tryz.underlying36 hi0 hz0 hz1 hz2 rfl (by omega) sv xs.length xs (by rfl) Q.out.2.2.2.2 ⟨x5.heap.size, 0, none⟩ 1 1 #[.pointer (some ⟨by_, 0, none⟩)].toList (by rfl) (by rfl) Q.out.1 Q.out.2.1 (by omega) Q.out.2.2.1 (by omega) Q.out.2.2.2.1 (x5.heap.size + 1) (by simp) ?_; intro g' cap w5 hown1 hgrow hor hlt5; obtain ⟨s4, s4f, hb5⟩ := KN.after (HKX.out.kn.below ((Below.refl _ _).alloc (Nat.le_refl _) _)) hgrow; have K2 := qh (KG.steps (l := [y]) (HKX.out.below ((Below.refl _ _).alloc (Nat.le_refl _) _)) (HY.out.below ((Below.refl _ _).alloc (Nat.le_refl _) _)) rfl rfl hown1 hgrow (hor.imp id fun e => e.trans (World.size_alloc _ _).symm)); have H2 := qh (PG.hung HX_.out H0.out _ hgrow (fun k e => (HKX.out.kn.own.lt _ e).1) (u := .slice (some ⟨g', 0, none⟩) (xs.length + 1) cap) HKX.out.kn.low); have HM2 := qh (hm_hung HM5.out HKX.out.kn (u := .slice (some ⟨g', 0, none⟩) (xs.length + 1) cap) hgrow); clear hown1 hgrow hor hlt5))
           all_goals
            go_wp2_with fail
            go_meet
            exact qh ⟨[y], j4, by omega, by omega, by simp, H2.out, ⟨_, _, K2.out⟩, HM2.out, HS.out⟩
        ·skip
         by_cases hw6 : t = sFor
         ·subst hw6
          obtain ⟨rfl, rfl⟩ := look_det HLK.out (look_yes (br := br) (t := sFor) (v := .func (.func 114) #[.pointer (some ⟨br, 0, none⟩)] #[]) (by rfl) _ _ HM.out)
          clear HLK
          have H := qh (show PG w0 w (wn.alloc (.cells #[.int .u8 6, .complex .f64 (fl r1) (fl r2), .complex .f64 (fl q1) (fl q2), .string sFor, .int .i64 n] 40)) br A c L j from H.out)
          have HK := qh (show KG w.heap.size w.heap.size (wn.alloc (.cells #[.int .u8 6, .complex .f64 (fl r1) (fl r2), .complex .f64 (fl q1) (fl q2), .string sFor, .int .i64 n] 40)) b ⟨46, (p1, p2), sNil, 0⟩ sv acc xs from HK.out)
          have HM := qh (show (wn.alloc (.cells #[.int .u8 6, .complex .f64 (fl r1) (fl r2), .complex .f64 (fl q1) (fl q2), .string sFor, .int .i64 n] 40)).heap[wm.heap.size]? = some (mapO (entsV (wordE br))) from HM.out)
          have T := qh (show Lx.Blk (wn.alloc (.cells #[.int .u8 6, .complex .f64 (fl r1) (fl r2), .complex .f64 (fl q1) (fl q2), .string sFor, .int .i64 n] 40)) wn.heap.size 40 #[.int .u8 6, .complex .f64 (fl r1) (fl r2), .complex .f64 (fl q1) (fl q2), .string sFor, .int .i64 n] from T.out)
          have HS := qh (show res = bindP (forS g bd (r1, r2)) (fun x => tokP (tT sSem) (fun _ => bindP (bodyR g bd f (acc ++ [x])) (fun l => retP (mk 46 (p1, p2) sNil 0 l))) ((fun l => retP (mk 46 (p1, p2) sNil 0 l)) (acc ++ [x]))) L (j + 1) from HS.out.trans (by rw [stm_bind (stm_w6 HKI.out HTX.out), HPI.out]))
          have hjl : j < L.length := by
           rcases Nat.lt_or_ge j L.length with h | h
           ·exact h
           ·have := HKI.out; rw [kind_end h] at this; cases this
          have H1 := qh (H.out.set_ (j + 1))
          have HK1 := qh (HK.out.grown (H.out.1.set_ (j + 1)).2 hbr0 (Nat.le_refl _))
          have HM1 := qh (hm_grown HM.out (H.out.1.set_ (j + 1)).2 hmb)
          have T1 := qh (T.out.far (p := ⟨br, 1, none⟩) hne2 (.int .i64 ((j + 1 : Nat) : Int)))
          obtain ⟨m1, f1, hlt⟩ := H.out.1.at_
          obtain ⟨c0, c1, -, c3, -, -, -, -, -, -⟩ := T.out.tok
          have x0 : (0 : Int) ≤ (j : Int) := by omega
          go_wp2
          rw [show ((j + 1 : Nat) : Int) = (j : Int) + 1 by omega] at H1 HK1 HM1 T1
          obtain ⟨-, t1c, -, -, -, -, -, -, -, -⟩ := T1.out.tok
          have hbt := T1.out.lt
          clear m1 f1 hlt c0 c1 c3 H HK HM T T1
          generalize (wn.alloc (.cells #[.int .u8 6, .complex .f64 (fl r1) (fl r2), .complex .f64 (fl q1) (fl q2), .string sFor, .int .i64 n] 40)).setCell ⟨br, 1, none⟩ (.int .i64 ((j : Int) + 1)) = wx at *
          have H := H1
          have HK := HK1
          have HM := HM1
          clear H1 HK1 HM1
          have d1 : Calls _ _ _ _ (TreeR _ _ _ _ _ _ _ ((forS g bd (r1, r2)) L (j + 1))) := (W6.out (j + 1) (by omega) (by omega) r1 r2 wx.drew (H.out.below ((Below.refl _ _).drew)).1)
          cases hx : (forS g bd (r1, r2)) L (j + 1) with
          | error k9 =>
            rw [hx] at d1
            have D1 := qh d1
            have HS := qh (HS.out.trans (bind_err hx))
            clear d1 hx
            have HD_ := qh (H.out.below ((Below.refl _ _).drew))
            obtain ⟨m4, m4f, hbl4⟩ := HK.out.kn.facts
            have D1 := qh (D1.out.mono (R' := fun e w' => (∃ p, e = .returned (.pointer p) ∧ Hid False) ∨ (e = bad k9 ∧ wx.drew.grownBy w' (some br))) fun e w' h => .inr h)
            go_region_law (first
             | (go_simp; go_at_call 114; (with_reducible refine D1.out.mono ?_); rintro e x (⟨p_, rfl, hF⟩ | ⟨rfl, hb⟩); (case' inr => (refine ⟨rfl, ?_⟩; rw [HS.out]; exact ⟨rfl, grown_trans HD_.out.2 hb⟩)); have t4 : x.cell? ⟨b, 4, none⟩ = some sv := hF.out.elim; have t4f : x.frozen? ⟨b, 4, none⟩ = false := hF.out.elim; have hbx : b < x.heap.size := hF.out.elim)
             | (refine step_append_lies _ (by rfl) _ _ _ (by rfl) w.heap.size 31 i0 _ 1 8 Tryz.underlying36 hi0 hz0 hz1 hz2 rfl (by omega) sv xs.length xs hF.out.elim hF.out.elim ⟨0, 0, none⟩ 1 1 [] hF.out.elim hF.out.elim hF.out.elim hF.out.elim (by omega) hF.out.elim hF.out.elim hF.out.elim 0 hF.out.elim ?_; intro g' cap w5 hown1 hgrow hor hlt5; have s4 : w5.cell? ⟨b, 4, none⟩ = some sv := hF.out.elim; have s4f : w5.frozen? ⟨b, 4, none⟩ = false := hF.out.elim; have hb5 : b < w5.heap.size := hF.out.elim; clear hown1 hgrow hor hlt5))
            all_goals exact hF.out.elim
          | ok r =>
            obtain ⟨y, j4⟩ := r
            rw [hx] at d1
            have D1 := qh d1
            have HS := qh (HS.out.trans (bind_ok hx))
            have hj4 := Q6.out (r1, r2) (j + 1)
            rw [hx] at hj4
            simp only [posE] at hj4
            clear d1 hx
            have HD_ := qh (H.out.below ((Below.refl _ _).drew))
            have HKD := qh (HK.out.below ((Below.refl _ _).drew))
            obtain ⟨m4, m4f, hbl4⟩ := HK.out.kn.facts
            go_region_law (first
             | (go_simp; go_at_call 114; (with_reducible refine D1.out.mono ?_); rintro e x5 ⟨by_, rfl, hp, hgr, hr⟩; have HM5 := qh (hm_grown (hm_below HM.out ((Below.refl _ _).drew)) hgr hmb); have HKX := qh (HKD.out.grown hgr hbr0 (Nat.le_refl _)); have HY := qh (HKD.out.new hr (Nat.le_refl _)); have HX_ := qh (HD_.out.trans ⟨hp, hgr⟩); clear hp hgr hr; obtain ⟨t4, t4f, hbx⟩ := HKX.out.kn.facts; have Q := kid_facts (cs := #[.pointer (some ⟨by_, 0, none⟩)]) x5.heap.size rfl (Nat.le_trans HKX.out.kn.low (Nat.le_of_lt hbx)) HKX.out.kn.own hxl (one_ptr (some ⟨by_, 0, none⟩)) (by simp))
             | (refine step_append_lies _ (by rfl) _ _ _ (by rfl) w.heap.size 31 i0 _ 1 8 Tryz.underlying36 hi0 hz0 hz1 hz2 rfl (by omega) sv xs.length xs (by rfl) Q.out.2.2.2.2 ⟨x5.heap.size, 0, none⟩ 1 1 #[.pointer (some ⟨by_, 0, none⟩)].toList (by rfl) (by rfl) Q.out.1 Q.out.2.1 (by omega) Q.out.2.2.1 (by omega) Q.out.2.2.2.1 (x5.heap.size + 1) (by simp) ?_; intro g' cap w5 hown1 hgrow hor hlt5; obtain ⟨s4, s4f, hb5⟩ := KN.after (HKX.out.kn.below ((Below.refl _ _).alloc (Nat.le_refl _) _)) hgrow; have K2 := qh (KG.steps (l := [y]) (HKX.out.below ((Below.refl _ _).alloc (Nat.le_refl _) _)) (HY.out.below ((Below.refl _ _).alloc (Nat.le_refl _) _)) rfl rfl hown1 hgrow (hor.imp id fun e => e.trans (World.size_alloc _ _).symm)); have H2 := qh (PG.hung HX_.out H0.out _ hgrow (fun k e => (HKX.out.kn.own.lt _ e).1) (u := .slice (some ⟨g', 0, none⟩) (xs.length + 1) cap) HKX.out.kn.low); have HM2 := qh (hm_hung HM5.out HKX.out.kn (u := .slice (some ⟨g', 0, none⟩) (xs.length + 1) cap) hgrow); clear hown1 hgrow hor hlt5))
            all_goals
             go_wp2_with fail
             go_meet
             exact qh ⟨[y], j4, by omega, by omega, by simp, H2.out, ⟨_, _, K2.out⟩, HM2.out, HS.out⟩
         ·skip
          by_cases hw7 : t = sWith
          ·subst hw7
           obtain ⟨rfl, rfl⟩ := look_det HLK.out (look_yes (br := br) (t := sWith) (v := .func (.func 115) #[.pointer (some ⟨br, 0, none⟩)] #[]) (by rfl) _ _ HM.out)
           clear HLK
           have H := qh (show PG w0 w (wn.alloc (.cells #[.int .u8 6, .complex .f64 (fl r1) (fl r2), .complex .f64 (fl q1) (fl q2), .string sWith, .int .i64 n] 40)) br A c L j from H.out)
           have HK := qh (show KG w.heap.size w.heap.size (wn.alloc (.cells #[.int .u8 6, .complex .f64 (fl r1) (fl r2), .complex .f64 (fl q1) (fl q2), .string sWith, .int .i64 n] 40)) b ⟨46, (p1, p2), sNil, 0⟩ sv acc xs from HK.out)
           have HM := qh (show (wn.alloc (.cells #[.int .u8 6, .complex .f64 (fl r1) (fl r2), .complex .f64 (fl q1) (fl q2), .string sWith, .int .i64 n] 40)).heap[wm.heap.size]? = some (mapO (entsV (wordE br))) from HM.out)
           have T := qh (show Lx.Blk (wn.alloc (.cells #[.int .u8 6, .complex .f64 (fl r1) (fl r2), .complex .f64 (fl q1) (fl q2), .string sWith, .int .i64 n] 40)) wn.heap.size 40 #[.int .u8 6, .complex .f64 (fl r1) (fl r2), .complex .f64 (fl q1) (fl q2), .string sWith, .int .i64 n] from T.out)
           have HS := qh (show res = bindP (withS g bd (r1, r2)) (fun x => tokP (tT sSem) (fun _ => bindP (bodyR g bd f (acc ++ [x])) (fun l => retP (mk 46 (p1, p2) sNil 0 l))) ((fun l => retP (mk 46 (p1, p2) sNil 0 l)) (acc ++ [x]))) L (j + 1) from HS.out.trans (by rw [stm_bind (stm_w7 HKI.out HTX.out), HPI.out]))
           have hjl : j < L.length := by
            rcases Nat.lt_or_ge j L.length with h | h
            ·exact h
            ·have := HKI.out; rw [kind_end h] at this; cases this
           have H1 := qh (H.out.set_ (j + 1))
           have HK1 := qh (HK.out.grown (H.out.1.set_ (j + 1)).2 hbr0 (Nat.le_refl _))
           have HM1 := qh (hm_grown HM.out (H.out.1.set_ (j + 1)).2 hmb)
           have T1 := qh (T.out.far (p := ⟨br, 1, none⟩) hne2 (.int .i64 ((j + 1 : Nat) : Int)))
           obtain ⟨m1, f1, hlt⟩ := H.out.1.at_
           obtain ⟨c0, c1, -, c3, -, -, -, -, -, -⟩ := T.out.tok
           have x0 : (0 : Int) ≤ (j : Int) := by omega
           go_wp2
           rw [show ((j + 1 : Nat) : Int) = (j : Int) + 1 by omega] at H1 HK1 HM1 T1
           obtain ⟨-, t1c, -, -, -, -, -, -, -, -⟩ := T1.out.tok
           have hbt := T1.out.lt
           clear m1 f1 hlt c0 c1 c3 H HK HM T T1
           generalize (wn.alloc (.cells #[.int .u8 6, .complex .f64 (fl r1) (fl r2), .complex .f64 (fl q1) (fl q2), .string sWith, .int .i64 n] 40)).setCell ⟨br, 1, none⟩ (.int .i64 ((j : Int) + 1)) = wx at *
           have H := H1
           have HK := HK1
           have HM := HM1
           clear H1 HK1 HM1
           have d1 : Calls _ _ _ _ (TreeR _ _ _ _ _ _ _ ((withS g bd (r1, r2)) L (j + 1))) := (W7.out (j + 1) (by omega) (by omega) r1 r2 wx.drew (H.out.below ((Below.refl _ _).drew)).1)
           cases hx : (withS g bd (r1, r2)) L (j + 1) with
           | error k9 =>
             rw [hx] at d1
             have D1 := qh d1
             have HS := qh (HS.out.trans (bind_err hx))
             clear d1 hx
             have HD_ := qh (H.out.below ((Below.refl _ _).drew))
             obtain ⟨m4, m4f, hbl4⟩ := HK.out.kn.facts
             have D1 := qh (D1.out.mono (R' := fun e w' => (∃ p, e = .returned (.pointer p) ∧ Hid False) ∨ (e = bad k9 ∧ wx.drew.grownBy w' (some br))) fun e w' h => .inr h)
             go_region_law (first
              | (go_simp; go_at_call 115; (with_reducible refine D1.out.mono ?_); rintro e x (⟨p_, rfl, hF⟩ | ⟨rfl, hb⟩); (case' inr => (refine ⟨rfl, ?_⟩; rw [HS.out]; exact ⟨rfl, grown_trans HD_.out.2 hb⟩)); have t4 : x.cell? ⟨b, 4, none⟩ = some sv := hF.out.elim; have t4f : x.frozen? ⟨b, 4, none⟩ = false := hF.out.elim; have hbx : b < x.heap.size := hF.out.elim)
              | (refine step_append_lies _ (by rfl) _ _ _ (by rfl) w.heap.size 31 i0 _ 1 8 Tryz.underlying36 hi0 hz0 hz1 hz2 rfl (by omega) sv xs.length xs hF.out.elim hF.out.elim ⟨0, 0, none⟩ 1 1 [] hF.out.elim hF.out.elim hF.out.elim hF.out.elim (by omega) hF.out.elim hF.out.elim hF.out.elim 0 hF.out.elim ?_; intro g' cap w5 hown1 hgrow hor hlt5; have s4 : w5.cell? ⟨b, 4, none⟩ = some sv := hF.out.elim; have s4f : w5.frozen? ⟨b, 4, none⟩ = false := hF.out.elim; have hb5 : b < w5.heap.size := hF.out.elim; clear hown1 hgrow hor hlt5))
             all_goals exact hF.out.elim
           | ok r =>
             obtain ⟨y, j4⟩ := r
             rw [hx] at d1
             have D1 := qh d1
             have HS := qh (HS.out.trans (bind_ok hx))
             have hj4 := Q7.out (r1, r2) (j + 1)
             rw [hx] at hj4
             simp only [posE] at hj4
             clear d1 hx
             have HD_ := qh (H.out.below ((Below.refl _ _).drew))
             have HKD := qh (HK.out.below ((Below.refl _ _).drew))
             obtain ⟨m4, m4f, hbl4⟩ := HK.out.kn.facts
             go_region_law (first
              | (go_simp; go_at_call 115; (with_reducible refine D1.out.mono ?_); rintro e x5 ⟨by_, rfl, hp, hgr, hr⟩; have HM5 := qh (hm_grown (hm_below HM.out ((Below.refl _ _).drew)) hgr hmb); have HKX := qh (HKD.out.grown hgr hbr0 (Nat.le_refl _)); have HY := qh (HKD.out.new hr (Nat.le_refl _)); have HX_ := qh (HD_.out.trans ⟨hp, hgr⟩); clear hp hgr hr; obtain ⟨t4, t4f, hbx⟩ := HKX.out.kn.facts; have Q := kid_facts (cs := #[.pointer (some ⟨by_, 0, none⟩)]) x5.heap.size rfl (Nat.le_trans HKX.out.kn.low (Nat.le_of_lt hbx)) HKX.out.kn.own hxl (one_ptr (some ⟨by_, 0, none⟩)) (by simp))
              | (refine step_append_lies _ (by rfl) _ _ _ (by rfl) w.heap.size 31 i0 _ 1 8 Tryz.underlying36 hi0 hz0 hz1 hz2 rfl (by omega) sv xs.length xs (by rfl) Q.out.2.2.2.2 ⟨x5.heap.size, 0, none⟩ 1 1 #[.pointer (some ⟨by_, 0, none⟩)].toList (by rfl) (by rfl) Q.out.1 Q.out.2.1 (by omega) Q.out.2.2.1 (by omega) Q.out.2.2.2.1 (x5.heap.size + 1) (by simp) ?_; intro g' cap w5 hown1 hgrow hor hlt5; obtain ⟨s4, s4f, hb5⟩ := KN.after (HKX.out.kn.below ((Below.refl _ _).alloc (Nat.le_refl _) _)) hgrow; have K2 := qh (KG.steps (l := [y]) (HKX.out.below ((Below.refl _ _).alloc (Nat.le_refl _) _)) (HY.out.below ((Below.refl _ _).alloc (Nat.le_refl _) _)) rfl rfl hown1 hgrow (hor.imp id fun e => e.trans (World.size_alloc _ _).symm)); have H2 := qh (PG.hung HX_.out H0.out _ hgrow (fun k e => (HKX.out.kn.own.lt _ e).1) (u := .slice (some ⟨g', 0, none⟩) (xs.length + 1) cap) HKX.out.kn.low); have HM2 := qh (hm_hung HM5.out HKX.out.kn (u := .slice (some ⟨g', 0, none⟩) (xs.length + 1) cap) hgrow); clear hown1 hgrow hor hlt5))
             all_goals
              go_wp2_with fail
              go_meet
              exact qh ⟨[y], j4, by omega, by omega, by simp, H2.out, ⟨_, _, K2.out⟩, HM2.out, HS.out⟩
          ·skip
           by_cases hw8 : t = sReturn
           ·subst hw8
            obtain ⟨rfl, rfl⟩ := look_det HLK.out (look_yes (br := br) (t := sReturn) (v := .func (.func 116) #[.pointer (some ⟨br, 0, none⟩)] #[]) (by rfl) _ _ HM.out)
            clear HLK
            have H := qh (show PG w0 w (wn.alloc (.cells #[.int .u8 6, .complex .f64 (fl r1) (fl r2), .complex .f64 (fl q1) (fl q2), .string sReturn, .int .i64 n] 40)) br A c L j from H.out)
            have HK := qh (show KG w.heap.size w.heap.size (wn.alloc (.cells #[.int .u8 6, .complex .f64 (fl r1) (fl r2), .complex .f64 (fl q1) (fl q2), .string sReturn, .int .i64 n] 40)) b ⟨46, (p1, p2), sNil, 0⟩ sv acc xs from HK.out)
            have HM := qh (show (wn.alloc (.cells #[.int .u8 6, .complex .f64 (fl r1) (fl r2), .complex .f64 (fl q1) (fl q2), .string sReturn, .int .i64 n] 40)).heap[wm.heap.size]? = some (mapO (entsV (wordE br))) from HM.out)
            have T := qh (show Lx.Blk (wn.alloc (.cells #[.int .u8 6, .complex .f64 (fl r1) (fl r2), .complex .f64 (fl q1) (fl q2), .string sReturn, .int .i64 n] 40)) wn.heap.size 40 #[.int .u8 6, .complex .f64 (fl r1) (fl r2), .complex .f64 (fl q1) (fl q2), .string sReturn, .int .i64 n] from T.out)
            have HS := qh (show res = bindP (returnS g (r1, r2)) (fun x => tokP (tT sSem) (fun _ => bindP (bodyR g bd f (acc ++ [x])) (fun l => retP (mk 46 (p1, p2) sNil 0 l))) ((fun l => retP (mk 46 (p1, p2) sNil 0 l)) (acc ++ [x]))) L (j + 1) from HS.out.trans (by rw [stm_bind (stm_w8 HKI.out HTX.out), HPI.out]))
            have hjl : j < L.length := by
             rcases Nat.lt_or_ge j L.length with h | h
             ·exact h
             ·have := HKI.out; rw [kind_end h] at this; cases this
            have H1 := qh (H.out.set_ (j + 1))
            have HK1 := qh (HK.out.grown (H.out.1.set_ (j + 1)).2 hbr0 (Nat.le_refl _))
            have HM1 := qh (hm_grown HM.out (H.out.1.set_ (j + 1)).2 hmb)
            have T1 := qh (T.out.far (p := ⟨br, 1, none⟩) hne2 (.int .i64 ((j + 1 : Nat) : Int)))
            obtain ⟨m1, f1, hlt⟩ := H.out.1.at_
            obtain ⟨c0, c1, -, c3, -, -, -, -, -, -⟩ := T.out.tok
            have x0 : (0 : Int) ≤ (j : Int) := by omega
            go_wp2
            rw [show ((j + 1 : Nat) : Int) = (j : Int) + 1 by omega] at H1 HK1 HM1 T1
            obtain ⟨-, t1c, -, -, -, -, -, -, -, -⟩ := T1.out.tok
            have hbt := T1.out.lt
            clear m1 f1 hlt c0 c1 c3 H HK HM T T1
            generalize (wn.alloc (.cells #[.int .u8 6, .complex .f64 (fl r1) (fl r2), .complex .f64 (fl q1) (fl q2), .string sReturn, .int .i64 n] 40)).setCell ⟨br, 1, none⟩ (.int .i64 ((j : Int) + 1)) = wx at *
            have H := H1
            have HK := HK1
            have HM := HM1
            clear H1 HK1 HM1
            have d1 : Calls _ _ _ _ (TreeR _ _ _ _ _ _ _ ((returnS g (r1, r2)) L (j + 1))) := (W8.out (j + 1) (by omega) (by omega) r1 r2 wx.drew (H.out.below ((Below.refl _ _).drew)).1)
            cases hx : (returnS g (r1, r2)) L (j + 1) with
            | error k9 =>
              rw [hx] at d1
              have D1 := qh d1
              have HS := qh (HS.out.trans (bind_err hx))
              clear d1 hx
              have HD_ := qh (H.out.below ((Below.refl _ _).drew))
              obtain ⟨m4, m4f, hbl4⟩ := HK.out.kn.facts
              have D1 := qh (D1.out.mono (R' := fun e w' => (∃ p, e = .returned (.pointer p) ∧ Hid False) ∨ (e = bad k9 ∧ wx.drew.grownBy w' (some br))) fun e w' h => .inr h)
              go_region_law (first
               | (go_simp; go_at_call 116; (with_reducible refine D1.out.mono ?_); rintro e x (⟨p_, rfl, hF⟩ | ⟨rfl, hb⟩); (case' inr => (refine ⟨rfl, ?_⟩; rw [HS.out]; exact ⟨rfl, grown_trans HD_.out.2 hb⟩)); have t4 : x.cell? ⟨b, 4, none⟩ = some sv := hF.out.elim; have t4f : x.frozen? ⟨b, 4, none⟩ = false := hF.out.elim; have hbx : b < x.heap.size := hF.out.elim)
               | (refine step_append_lies _ (by rfl) _ _ _ (by rfl) w.heap.size 31 i0 _ 1 8 Tryz.underlying36 hi0 hz0 hz1 hz2 rfl (by omega) sv xs.length xs hF.out.elim hF.out.elim ⟨0, 0, none⟩ 1 1 [] hF.out.elim hF.out.elim hF.out.elim hF.out.elim (by omega) hF.out.elim hF.out.elim hF.out.elim 0 hF.out.elim ?_; intro g' cap w5 hown1 hgrow hor hlt5; have s4 : w5.cell? ⟨b, 4, none⟩ = some sv := hF.out.elim; have s4f : w5.frozen? ⟨b, 4, none⟩ = false := hF.out.elim; have hb5 : b < w5.heap.size := hF.out.elim; clear hown1 hgrow hor hlt5))
              all_goals exact hF.out.elim
            | ok r =>
              obtain ⟨y, j4⟩ := r
              rw [hx] at d1
              have D1 := qh d1
              have HS := qh (HS.out.trans (bind_ok hx))
              have hj4 := Q8.out (r1, r2) (j + 1)
              rw [hx] at hj4
              simp only [posE] at hj4
              clear d1 hx
              have HD_ := qh (H.out.below ((Below.refl _ _).drew))
              have HKD := qh (HK.out.below ((Below.refl _ _).drew))
              obtain ⟨m4, m4f, hbl4⟩ := HK.out.kn.facts
              go_region_law (first
               | (go_simp; go_at_call 116; (with_reducible refine D1.out.mono ?_); rintro e x5 ⟨by_, rfl, hp, hgr, hr⟩; have HM5 := qh (hm_grown (hm_below HM.out ((Below.refl _ _).drew)) hgr hmb); have HKX := qh (HKD.out.grown hgr hbr0 (Nat.le_refl _)); have HY := qh (HKD.out.new hr (Nat.le_refl _)); have HX_ := qh (HD_.out.trans ⟨hp, hgr⟩); clear hp hgr hr; obtain ⟨t4, t4f, hbx⟩ := HKX.out.kn.facts; have Q := kid_facts (cs := #[.pointer (some ⟨by_, 0, none⟩)]) x5.heap.size rfl (Nat.le_trans HKX.out.kn.low (Nat.le_of_lt hbx)) HKX.out.kn.own hxl (one_ptr (some ⟨by_, 0, none⟩)) (by simp))
               | (refine step_append_lies _ (by rfl) _ _ _ (by rfl) w.heap.size 31 i0 _ 1 8 Tryz.underlying36 hi0 hz0 hz1 hz2 rfl (by omega) sv xs.length xs (by rfl) Q.out.2.2.2.2 ⟨x5.heap.size, 0, none⟩ 1 1 #[.pointer (some ⟨by_, 0, none⟩)].toList (by rfl) (by rfl) Q.out.1 Q.out.2.1 (by omega) Q.out.2.2.1 (by omega) Q.out.2.2.2.1 (x5.heap.size + 1) (by simp) ?_; intro g' cap w5 hown1 hgrow hor hlt5; obtain ⟨s4, s4f, hb5⟩ := KN.after (HKX.out.kn.below ((Below.refl _ _).alloc (Nat.le_refl _) _)) hgrow; have K2 := qh (KG.steps (l := [y]) (HKX.out.below ((Below.refl _ _).alloc (Nat.le_refl _) _)) (HY.out.below ((Below.refl _ _).alloc (Nat.le_refl _) _)) rfl rfl hown1 hgrow (hor.imp id fun e => e.trans (World.size_alloc _ _).symm)); have H2 := qh (PG.hung HX_.out H0.out _ hgrow (fun k e => (HKX.out.kn.own.lt _ e).1) (u := .slice (some ⟨g', 0, none⟩) (xs.length + 1) cap) HKX.out.kn.low); have HM2 := qh (hm_hung HM5.out HKX.out.kn (u := .slice (some ⟨g', 0, none⟩) (xs.length + 1) cap) hgrow); clear hown1 hgrow hor hlt5))
              all_goals
               go_wp2_with fail
               go_meet
               exact qh ⟨[y], j4, by omega, by omega, by simp, H2.out, ⟨_, _, K2.out⟩, HM2.out, HS.out⟩
           ·skip
            have hnw : ∀ x ∈ wordE br, x.1 ≠ t := by
             intro x hx
             unfold wordE at hx
             simp only [List.mem_cons, List.not_mem_nil, or_false] at hx
             rcases hx with rfl | rfl | rfl | rfl | rfl | rfl | rfl | rfl | rfl <;> (intro e; exact (by assumption : ¬ t = _) e.symm)
            obtain ⟨rfl, rfl⟩ := look_det HLK.out (look_no hnw _ _ HM.out)
            clear HLK
            have H := qh (show PG w0 w (wn.alloc (.cells #[.int .u8 6, .complex .f64 (fl r1) (fl r2), .complex .f64 (fl q1) (fl q2), .string t, .int .i64 n] 40)) br A c L j from H.out)
            have HK := qh (show KG w.heap.size w.heap.size (wn.alloc (.cells #[.int .u8 6, .complex .f64 (fl r1) (fl r2), .complex .f64 (fl q1) (fl q2), .string t, .int .i64 n] 40)) b ⟨46, (p1, p2), sNil, 0⟩ sv acc xs from HK.out)
            have HM := qh (show (wn.alloc (.cells #[.int .u8 6, .complex .f64 (fl r1) (fl r2), .complex .f64 (fl q1) (fl q2), .string t, .int .i64 n] 40)).heap[wm.heap.size]? = some (mapO (entsV (wordE br))) from HM.out)
            have T := qh (show Lx.Blk (wn.alloc (.cells #[.int .u8 6, .complex .f64 (fl r1) (fl r2), .complex .f64 (fl q1) (fl q2), .string t, .int .i64 n] 40)) wn.heap.size 40 #[.int .u8 6, .complex .f64 (fl r1) (fl r2), .complex .f64 (fl q1) (fl q2), .string t, .int .i64 n] from T.out)
            have hna : ∀ x ∈ alts g bd, isWd6 x.1 (tk L j) = false := by
             intro x hx
             unfold alts at hx
             simp only [List.mem_cons, List.not_mem_nil, or_false] at hx
             rcases hx with rfl | rfl | rfl | rfl | rfl | rfl | rfl | rfl | rfl <;> exact nw HTX.out (by assumption)
            have hjj : j ≤ 60000 := by omega
            obtain ⟨c0, c1, -, c3, -, -, -, -, -, -⟩ := T.out.tok
            have HS := qh (show res = tokP (tT sSem) (fun _ => bindP (bodyR g bd f (acc ++ [])) (fun l => retP (mk 46 (p1, p2) sNil 0 l))) ((fun l => retP (mk 46 (p1, p2) sNil 0 l)) (acc ++ [])) L j from HS.out.trans (bind_ok (stm_none (by rw [HKI.out]; decide) (hna))))
            go_wp2
            go_meet
            exact qh ⟨[], j, by omega, by omega, by simp, H.out, ⟨_, _, (show KG _ _ _ _ _ _ (acc ++ []) _ from (List.append_nil acc).symm ▸ HK.out)⟩, HM.out, HS.out⟩
  ·have k6_ : ((k : Int) == 6) = false := by simp only [beq_eq_false_iff_ne, ne_eq]; omega
   by_cases hk1 : k = 1
   ·subst hk1
    have H := qh (show PG w0 w (wn.alloc (.cells #[.int .u8 1, .complex .f64 (fl r1) (fl r2), .complex .f64 (fl q1) (fl q2), .string t, .int .i64 n] 40)) br A c L j from H.out)
    have HK := qh (show KG w.heap.size w.heap.size (wn.alloc (.cells #[.int .u8 1, .complex .f64 (fl r1) (fl r2), .complex .f64 (fl q1) (fl q2), .string t, .int .i64 n] 40)) b ⟨46, (p1, p2), sNil, 0⟩ sv acc xs from HK.out)
    have HM := qh (show (wn.alloc (.cells #[.int .u8 1, .complex .f64 (fl r1) (fl r2), .complex .f64 (fl q1) (fl q2), .string t, .int .i64 n] 40)).heap[wm.heap.size]? = some (mapO (entsV (wordE br))) from HM.out)
    have T := qh (show Lx.Blk (wn.alloc (.cells #[.int .u8 1, .complex .f64 (fl r1) (fl r2), .complex .f64 (fl q1) (fl q2), .string t, .int .i64 n] 40)) wn.heap.size 40 #[.int .u8 1, .complex .f64 (fl r1) (fl r2), .complex .f64 (fl q1) (fl q2), .string t, .int .i64 n] from T.out)
    clear HLK
    have HS := qh (show res = bindP (plainS g) (fun x => tokP (tT sSem) (fun _ => bindP (bodyR g bd f (acc ++ [x])) (fun l => retP (mk 46 (p1, p2) sNil 0 l))) ((fun l => retP (mk 46 (p1, p2) sNil 0 l)) (acc ++ [x]))) L j from HS.out.trans (by rw [stm_bind (stm_name HKI.out)]))
    have hjl : j < L.length := by
     rcases Nat.lt_or_ge j L.length with h | h
     ·exact h
     ·have := HKI.out; rw [kind_end h] at this; cases this
    obtain ⟨c0, c1, -, c3, -, -, -, -, -, -⟩ := T.out.tok
    have hbt := T.out.lt
    go_wp2
    clear c0 c1 c3 T
    generalize (wn.alloc (.cells #[.int .u8 1, .complex .f64 (fl r1) (fl r2), .complex .f64 (fl q1) (fl q2), .string t, .int .i64 n] 40)) = wx at *
    have d1 : Calls _ _ _ _ (TreeR _ _ _ _ _ _ _ ((plainS g) L (j))) := (PL.out j (by omega) wx.drew (H.out.below ((Below.refl _ _).drew)).1)
    cases hx : (plainS g) L (j) with
    | error k9 =>
      rw [hx] at d1
      have D1 := qh d1
      have HS := qh (HS.out.trans (bind_err hx))
      clear d1 hx
      have HD_ := qh (H.out.below ((Below.refl _ _).drew))
      obtain ⟨m4, m4f, hbl4⟩ := HK.out.kn.facts
      have D1 := qh (D1.out.mono (R' := fun e w' => (∃ p, e = .returned (.pointer p) ∧ Hid False) ∨ (e = bad k9 ∧ wx.drew.grownBy w' (some br))) fun e w' h => .inr h)
      go_region_law (first
       | (go_simp; go_at_call 117; (with_reducible refine D1.out.mono ?_); rintro e x (⟨p_, rfl, hF⟩ | ⟨rfl, hb⟩); (case' inr => (refine ⟨rfl, ?_⟩; rw [HS.out]; exact ⟨rfl, grown_trans HD_.out.2 hb⟩)); have t4 : x.cell? ⟨b, 4, none⟩ = some sv := hF.out.elim; have t4f : x.frozen? ⟨b, 4, none⟩ = false := hF.out.elim; have hbx : b < x.heap.size := hF.out.elim)
       | (refine step_append_lies _ (by rfl) _ _ _ (by rfl) w.heap.size 31 i0 _ 1 8 Tryz.underlying36 hi0 hz0 hz1 hz2 rfl (by omega) sv xs.length xs hF.out.elim hF.out.elim ⟨0, 0, none⟩ 1 1 [] hF.out.elim hF.out.elim hF.out.elim hF.out.elim (by omega) hF.out.elim hF.out.elim hF.out.elim 0 hF.out.elim ?_; intro g' cap w5 hown1 hgrow hor hlt5; have s4 : w5.cell? ⟨b, 4, none⟩ = some sv := hF.out.elim; have s4f : w5.frozen? ⟨b, 4, none⟩ = false := hF.out.elim; have hb5 : b < w5.heap.size := hF.out.elim; clear hown1 hgrow hor hlt5))
      all_goals exact hF.out.elim
    | ok r =>
      obtain ⟨y, j4⟩ := r
      rw [hx] at d1
      have D1 := qh d1
      have HS := qh (HS.out.trans (bind_ok hx))
      have hj4 := QP.out (j)
      rw [hx] at hj4
      simp only [posE] at hj4
      clear d1 hx
      have HD_ := qh (H.out.below ((Below.refl _ _).drew))
      have HKD := qh (HK.out.below ((Below.refl _ _).drew))
      obtain ⟨m4, m4f, hbl4⟩ := HK.out.kn.facts
      go_region_law (first
       | (go_simp; go_at_call 117; (with_reducible refine D1.out.mono ?_); rintro e x5 ⟨by_, rfl, hp, hgr, hr⟩; have HM5 := qh (hm_grown (hm_below HM.out ((Below.refl _ _).drew)) hgr hmb); have HKX := qh (HKD.out.grown hgr hbr0 (Nat.le_refl _)); have HY := qh (HKD.out.new hr (Nat.le_refl _)); have HX_ := qh (HD_.out.trans ⟨hp, hgr⟩); clear hp hgr hr; obtain ⟨t4, t4f, hbx⟩ := HKX.out.kn.facts; have Q := kid_facts (cs := #[.pointer (some ⟨by_, 0, none⟩)]) x5.heap.size rfl (Nat.le_trans HKX.out.kn.low (Nat.le_of_lt hbx)) HKX.out.kn.own hxl (one_ptr (some ⟨by_, 0, none⟩)) (by simp))
       | (refine step_append_lies _ (by rfl) _ _ _ (by rfl) w.heap.size 31 i0 _ 1 8 Tryz.underlying36 hi0 hz0 hz1 hz2 rfl (by omega) sv xs.length xs (by rfl) Q.out.2.2.2.2 ⟨x5.heap.size, 0, none⟩ 1 1 #[.pointer (some ⟨by_, 0, none⟩)].toList (by rfl) (by rfl) Q.out.1 Q.out.2.1 (by omega) Q.out.2.2.1 (by omega) Q.out.2.2.2.1 (x5.heap.size + 1) (by simp) ?_; intro g' cap w5 hown1 hgrow hor hlt5; obtain ⟨s4, s4f, hb5⟩ := KN.after (HKX.out.kn.below ((Below.refl _ _).alloc (Nat.le_refl _) _)) hgrow; have K2 := qh (KG.steps (l := [y]) (HKX.out.below ((Below.refl _ _).alloc (Nat.le_refl _) _)) (HY.out.below ((Below.refl _ _).alloc (Nat.le_refl _) _)) rfl rfl hown1 hgrow (hor.imp id fun e => e.trans (World.size_alloc _ _).symm)); have H2 := qh (PG.hung HX_.out H0.out _ hgrow (fun k e => (HKX.out.kn.own.lt _ e).1) (u := .slice (some ⟨g', 0, none⟩) (xs.length + 1) cap) HKX.out.kn.low); have HM2 := qh (hm_hung HM5.out HKX.out.kn (u := .slice (some ⟨g', 0, none⟩) (xs.length + 1) cap) hgrow); clear hown1 hgrow hor hlt5))
      all_goals
       go_wp2_with fail
       go_meet
       exact qh ⟨[y], j4, by omega, by omega, by simp, H2.out, ⟨_, _, K2.out⟩, HM2.out, HS.out⟩
   ·have k1_ : ((k : Int) == 1) = false := by simp only [beq_eq_false_iff_ne, ne_eq]; omega
    clear HLK
    have hjj : j ≤ 60000 := by omega
    obtain ⟨c0, c1, -, c3, -, -, -, -, -, -⟩ := T.out.tok
    have HS := qh (show res = tokP (tT sSem) (fun _ => bindP (bodyR g bd f (acc ++ [])) (fun l => retP (mk 46 (p1, p2) sNil 0 l))) ((fun l => retP (mk 46 (p1, p2) sNil 0 l)) (acc ++ [])) L j from HS.out.trans (bind_ok (stm_none (by rw [HKI.out]; exact hk1) (fun x _ => k6 (by rw [HKI.out]; exact hk6)))))
    go_wp2
    go_meet
    exact qh ⟨[], j, by omega, by omega, by simp, H.out, ⟨_, _, (show KG _ _ _ _ _ _ (acc ++ []) _ from (List.append_nil acc).symm ▸ HK.out)⟩, HM.out, HS.out⟩
end Go.Proofs.YtkemhmfdooghkaaGreatDoor.St
end
