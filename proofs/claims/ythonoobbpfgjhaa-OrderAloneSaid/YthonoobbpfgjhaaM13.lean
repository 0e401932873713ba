/- A row that is taken from at the front and put to at the end. -/
import Derived.Test.YthonoobbpfgjhaaM12
import Derived.ArgAppend
set_option linter.unusedSimpArgs false
set_option linter.unusedVariables false
namespace Go.Proofs.Ythonoobbpfgjhaa.Od
open Go.RowKit
structure OwnT (base : Nat) (w : World) (lv : Value) (l : List Nm) (g off cap : Nat) : Prop where
  form : lv = .slice (some ⟨g, off, none⟩) l.length cap
  lo : base ≤ g
  hi : g < w.heap.size
  fit : l.length ≤ cap
  big : cap ≤ maxLen
  cells : ∀ j (h : j < l.length), w.cell? ⟨g, off + j, none⟩ = some (.string (S l[j]))
  spare : ∀ j, j < cap → (w.cell? ⟨g, off + j, none⟩).isSome = true
  free : ∀ j, j < cap → w.frozen? ⟨g, off + j, none⟩ = false
theorem OwnT.kept {base : Nat} {w w' : World} {lv : Value} {l : List Nm} {g off cap : Nat} {row : Option Nat} (h : OwnT base w lv l g off cap) (hg : w.grownBy w' row) (hne : some g ≠ row) : OwnT base w' lv l g off cap := by
  have hb := hg.block g h.hi hne
  refine ⟨h.form, h.lo, Nat.lt_of_lt_of_le h.hi hg.size, h.fit, h.big, fun j hj => ?_, fun j hj => ?_, fun j hj => ?_⟩
  · rw [World.cell?_of_block (a := ⟨g, off + j, none⟩) hb]; exact h.cells j hj
  · rw [World.cell?_of_block (a := ⟨g, off + j, none⟩) hb]; exact h.spare j hj
  · rw [World.frozen?_of_block (a := ⟨g, off + j, none⟩) hb]; exact h.free j hj
theorem OwnT.lit (base : Nat) (w : World) (hb : base ≤ w.heap.size) (m : Nm) : OwnT base (w.alloc (.cells #[.string (S m)] 9)) (.slice (some ⟨w.heap.size, 0, none⟩) 1 1) [m] w.heap.size 0 1 := by
  refine ⟨rfl, hb, by simp, by simp, by unfold maxLen; omega, fun j hj => ?_, fun j hj => ?_, fun j hj => ?_⟩
  · obtain rfl : j = 0 := by simpa using hj
    exact cell_new w _ _
  · obtain rfl : j = 0 := by omega
    rw [Nat.zero_add, cell_new]; rfl
  · obtain rfl : j = 0 := by omega
    exact fz_new w _ _
/-- The first one goes. -/
theorem OwnT.pop {base : Nat} {w : World} {lv : Value} {a : Nm} {l : List Nm} {g off cap : Nat} (h : OwnT base w lv (a :: l) g off cap) :
    ∃ lv' off', (∀ w', (Instr.slice 25 lv (some (.int .i64 1)) none none).run Try.prog w' = .ok lv' w') ∧ OwnT base w lv' l g off' (cap - 1) := by
  have hf := h.fit
  simp only [List.length_cons] at hf
  have hz : (Try.prog.elem 25) = 9 := by kernel_rfl
  have hc : ∀ j (hj : j < l.length), w.cell? ⟨g, off + 1 + j, none⟩ = some (.string (S l[j])) := fun j hj => by
    have := h.cells (j + 1) (by simp only [List.length_cons]; omega)
    rw [Nat.add_assoc, Nat.add_comm 1 j]
    simpa using this
  by_cases h1 : cap = 1
  · subst h1
    have : l = [] := List.eq_nil_of_length_eq_zero (by omega)
    subst this
    refine ⟨.slice (some ⟨g, off, none⟩) 0 0, off, fun w' => ?_, ⟨rfl, h.lo, h.hi, by simp, by unfold maxLen; omega, fun j hj => by simp at hj, fun j hj => by omega, fun j hj => by omega⟩⟩
    rw [h.form]
    simp [go_sem, sliced, Result.andThen]
  · refine ⟨.slice (some ⟨g, off + 1, none⟩) l.length (cap - 1), off + 1, fun w' => ?_, ⟨rfl, h.lo, h.hi, by omega, by have := h.big; omega, hc, fun j hj => ?_, fun j hj => ?_⟩⟩
    · rw [h.form]
      have h2 : (1 : Int) ≤ (l.length : Int) + 1 := by omega
      have h3 : ¬ (cap : Int) = 1 := by omega
      simp [go_sem, sliced, Result.andThen, h1, h2, h3, Addr.add]
    · rw [Nat.add_assoc, Nat.add_comm 1 j]; exact h.spare (j + 1) (by omega)
    · rw [Nat.add_assoc, Nat.add_comm 1 j]; exact h.free (j + 1) (by omega)
theorem grown_setCell (w : World) (a : Addr) (v : Value) : w.grownBy (w.setCell a v) (some a.block) :=
  ⟨rfl, rfl, rfl, by rw [World.size_setCell]; exact Nat.le_refl _, fun k _ hk => block_setCell (fun e => hk (by rw [e])) v⟩
section
variable {ops : Array Oper} {rest : List Oper} {o : Oper} {a : Act} {Q : Exit → Act → World → Prop}
theorem wpList_pushT (wq : World) (hgd : o.guard = none) (s x : Operand) (ho : o.op = .call { callee := .builtin .append, args := #[s, x], argTypes := #[25, 25] })
    (base : Nat) (lv : Value) (l : List Nm) (g off cap : Nat) (hs : a.eval s = lv) (h : OwnT base wq lv l g off cap) (hl : l.length ≤ 1000000) (hb : base ≤ wq.heap.size) (n : Nm) (m : Nat) (hx : a.eval x = .slice (some ⟨m, 0, none⟩) 1 1) (hm : wq.heap.size = m)
    (hK : ∀ lv' w' g' off' cap', OwnT base w' lv' (l ++ [n]) g' off' cap' → wq.grownBy w' (some g) → (g' = g ∨ wq.heap.size ≤ g') → wpList Try.prog ops Q rest (a.put o.dst lv') w') :
    wpList Try.prog ops Q (o :: rest) a (wq.alloc (.cells #[.string (S n)] 9)) := by
  subst hm
  obtain ⟨i0, hi0, hz0, hz1, hz2⟩ := info_parts infoS
  have hA := h.kept (World.grownBy_alloc wq (.cells #[.string (S n)] 9) none) (fun e => by cases e)
  have hnews := World.news_of_block (cs := #[.string (S n)]) (heap_alloc_new wq (.cells #[.string (S n)] 9))
  have hone : ∀ u ∈ [Value.string (S n)], u.oneCell' = true := fun v hv => by simp only [List.mem_singleton] at hv; subst hv; rfl
  have hG : wq.grownBy (wq.alloc (.cells #[.string (S n)] 9)) (some g) := World.grownBy_alloc wq _ _
  have hgw := h.hi
  generalize wq.alloc (.cells #[.string (S n)] 9) = w at *
  refine wpList_plain hgd fun K hK' => ?_
  by_cases hroom : l.length + 1 ≤ cap
  · have hrun := run_append_room_cells (P := Try.prog) w 25 o.type 9 i0 Try.underlying25 hi0 g off l.length cap ⟨wq.heap.size, 0, none⟩ 1 1 [.string (S n)] (by rw [hz1]; rfl) hnews hone hroom
      (fun j hj => by
        obtain rfl : j = 0 := by simpa using hj
        rw [hz1, Nat.mul_one, Nat.add_zero]; exact hA.spare _ (by omega))
      (fun j hj => by
        obtain rfl : j = 0 := by simpa using hj
        rw [hz1, Nat.mul_one, Nat.add_zero]; exact hA.free _ (by omega))
    rw [hz1, Nat.mul_one] at hrun
    have e1 : w.setCells g (off + l.length) [.string (S n)] = w.setCell ⟨g, off + l.length, none⟩ (.string (S n)) := rfl
    rw [e1] at hrun
    unfold Oper.wp execOp
    simp only [ho, resolve, invoke, builtin, Sem.run_bind, Sem.run_pure, Result.andThen_ok, List.map_toArray, List.map_cons, List.map_nil, hs, hx, h.form, hrun]
    have hs0 := hA.spare l.length (by omega)
    refine hK' _ _ (hK _ _ g off cap ⟨by rw [List.length_append]; rfl, h.lo, by rw [World.size_setCell]; exact hA.hi, by rw [List.length_append]; exact hroom, h.big, fun j hj => ?_, fun j hj => ?_, fun j hj => ?_⟩ (hG.trans (grown_setCell w _ _)) (.inl rfl))
    · by_cases e : j = l.length
      · subst e
        rw [World.cell?_setCell_same' w _ _ hs0]
        simp
      · have hjl : j < l.length := by rw [List.length_append, List.length_singleton] at hj; omega
        rw [World.cell?_setCell_other w _ _ _ (fun e' => e (by injection e' with _ e'; omega)), hA.cells j hjl, List.getElem_append_left hjl]
    · by_cases e : j = l.length
      · subst e
        rw [World.cell?_setCell_same' w _ _ hs0]; rfl
      · rw [World.cell?_setCell_other w _ _ _ (fun e' => e (by injection e' with _ e'; omega))]; exact hA.spare j hj
    · rw [World.frozen?_setCell]; exact hA.free j hj
  · have hcells : ∀ j u, (strs l)[j]? = some u → w.cell? ((⟨g, off, none⟩ : Addr).add j) = some u := by
      intro j u hu
      have hj : j < l.length := by have := (List.getElem?_eq_some_iff.1 hu).1; rwa [strs_len] at this
      rw [Addr.add_lit, hA.cells j hj, ← hu]
      simp only [strs, List.getElem?_map, List.getElem?_eq_getElem hj, Option.map_some]
    have hfit := h.fit
    obtain ⟨v', w', hrun, r1, r2⟩ := run_append_arg_grows (P := Try.prog) w 25 o.type 9 i0 _ 1 16 Try.underlying25 hi0 hz0 hz1 hz2 rfl (by omega) ⟨g, off, none⟩ l.length cap (strs l) (by rw [strs_len]; omega) hcells ⟨wq.heap.size, 0, none⟩ 1 1 [.string (S n)] rfl hnews (by omega) (by unfold maxLen; omega) (by omega)
    unfold Oper.wp execOp
    simp only [ho, resolve, invoke, builtin, Sem.run_bind, Sem.run_pure, Result.andThen_ok, List.map_toArray, List.map_cons, List.map_nil, hs, hx, h.form, hrun]
    have r1' := r1
    rcases r1.2 with ⟨_, h0⟩ | ⟨g', cap', cur, rfl, hlo, hh, hnc, hms, hcs, htk⟩
    · omega
    have hwz := hG.size
    refine hK' _ _ (hK _ _ g' 0 cap' ⟨by rw [List.length_append]; rfl, by omega, (Array.getElem?_eq_some_iff.1 hh).1, by rw [List.length_append]; exact hnc, hms, fun j hj => ?_, fun j hj => ?_, fun j hj => ?_⟩ (hG.trans ⟨r2.os, r2.tape, r2.output, r2.size, fun k hk _ => r2.block k hk (by simp)⟩) (.inr (by omega)))
    · rw [List.length_append, List.length_singleton] at hj
      rw [Nat.zero_add, World.ownsRow.cellAt r1' j (by omega)]
      have e : strs l ++ [.string (S n)] = strs (l ++ [n]) := by simp [strs]
      rw [e]
      simp only [strs, List.getElem?_map]
      rw [List.getElem?_eq_getElem (by rw [List.length_append, List.length_singleton]; omega)]
      rfl
    · rw [Nat.zero_add]
      unfold World.cell?
      simp only [hh]
      rw [Array.getElem?_eq_getElem (by omega)]; rfl
    · rw [Nat.zero_add]; exact World.ownsRow.frozenAt r1' j
end
end Go.Proofs.Ythonoobbpfgjhaa.Od
