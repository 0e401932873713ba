/- A row of names that is being made; who is seen, sorted; Reach. -/
import Derived.Test.YthonoobbpfgjhaaM7
import Derived.Deep.AppendLies
import Derived.Laws.OwnMore
set_option linter.unusedSimpArgs false
set_option linter.unusedVariables false
namespace Go.Proofs.Ythonoobbpfgjhaa.Od
open Go.RowKit
open Go.Sort (Holds putRow grow)
theorem infoS : (Try.prog.info? 9).map (fun i => (i.zero, i.size, i.bytes)) = some (some (.string ⟨#[]⟩), 1, 16) := by kernel_rfl
/-- A row of names of the call's own. -/
def OwnN (base : Nat) (w : World) (lv : Value) (l : List Nm) : Prop := w.ownsRow base 9 1 lv l.length (strs l)
theorem OwnN.nil (base : Nat) (w : World) : OwnN base w (.slice none 0 0) [] := World.ownsRow_nil w base _ _
theorem OwnN.kept {base : Nat} {w w' : World} {lv : Value} {l : List Nm} {row : Option Nat} (h : OwnN base w lv l) (hg : w.grownBy w' row) (hne : lv.ownBlock = none ∨ lv.ownBlock ≠ row) : OwnN base w' lv l := World.ownsRow.kept h hg hne
theorem OwnN.form {base : Nat} {w : World} {lv : Value} {l : List Nm} (h : OwnN base w lv l) (hl : l.length ≤ 1000000) : ∃ A c, lv = .slice A l.length c ∧ NR w A c l ∧ (0 < l.length → ∃ g, A = some ⟨g, 0, none⟩ ∧ base ≤ g) := by
  have h0 := h
  rcases h.2 with ⟨rfl, h2⟩ | ⟨g, cap, cur, rfl, hh, hcap, hnc, hms, _⟩
  · rw [h2]
    have : l = [] := List.eq_nil_of_length_eq_zero h2
    subst this
    exact ⟨none, 0, rfl, NR.nil w, fun h => absurd h (by simp)⟩
  · refine ⟨some ⟨g, 0, none⟩, cap, rfl, ⟨Reads.of_own h0, hnc, ?_⟩, fun _ => ⟨g, rfl, (World.ownsRow.lt h0 g rfl).1⟩⟩
    have := hms
    unfold maxLen at this
    omega
section
variable {ops : Array Oper} {rest : List Oper} {o : Oper} {a : Act} {Q : Exit → Act → World → Prop}
theorem wpList_push (wq : World) (hgd : o.guard = none) (s x : Operand) (ho : o.op = .call { callee := .builtin .append, args := #[s, x], argTypes := #[25, 25] })
    (base : Nat) (lv : Value) (l : List Nm) (hs : a.eval s = lv) (h : OwnN base wq lv l) (hl : l.length ≤ 1000000) (hb : base ≤ wq.heap.size) (n : Nm) (m : Nat) (hx : a.eval x = .slice (some ⟨m, 0, none⟩) 1 1) (hm : wq.heap.size = m)
    (hK : ∀ lv' w', (∃ g cap, lv' = .slice (some ⟨g, 0, none⟩) (l.length + 1) cap) → OwnN base w' lv' (l ++ [n]) → wq.grownBy w' lv.ownBlock → (∀ k, lv'.ownBlock = some k → lv.ownBlock = some k ∨ wq.heap.size ≤ k) → wpList Try.prog ops Q rest (a.put o.dst lv') w') :
    wpList Try.prog ops Q (o :: rest) a (wq.alloc (.cells #[.string (S n)] 9)) := by
  subst hm
  obtain ⟨i0, hi0, hz0, hz1, hz2⟩ := info_parts infoS
  refine wpList_append_lies _ hgd s x _ ho base 9 i0 _ 1 16 Try.underlying25 hi0 hz0 hz1 hz2 rfl (by omega) lv l.length (strs l) hs (World.ownsRow.alloc h _) ⟨wq.heap.size, 0, none⟩ 1 1 [.string (S n)] hx rfl
    (World.news_of_block (cs := #[.string (S n)]) (heap_alloc_new wq _)) (fun v hv => by simp only [List.mem_singleton] at hv; subst hv; rfl) (by omega) (by unfold maxLen; omega) (by omega) (by rw [World.size_alloc]; omega) (wq.heap.size + 1) (by rw [World.size_alloc]) ?_
  intro g cap w' hown hgrow hor hlt
  refine hK _ w' ⟨g, cap, rfl⟩ ?_ ((World.grownBy_alloc wq _ _).trans hgrow) (fun k hk => ?_)
  · show w'.ownsRow base _ 1 _ (l ++ [n]).length (strs (l ++ [n]))
    have e : strs (l ++ [n]) = strs l ++ [.string (S n)] := by simp [strs]
    rw [e, List.length_append]
    exact hown
  · have hk' : g = k := by simpa [Value.ownBlock] using hk
    subst hk'
    rcases hor with e | e
    · exact .inl e
    · exact .inr (by omega)
end
/-- Sorted, as the library does. -/
def sortN (l : List Nm) : List Nm := l.mergeSort fun x y => decide (x ≤ y)
theorem sortN_len (l : List Nm) : (sortN l).length = l.length := List.length_mergeSort ..
theorem sort_any {base : Nat} {w : World} {A : Option Addr} {c : Nat} {l : List Nm} (h : OwnN base w (.slice A l.length c) l) (hl : l.length ≤ 1000000) (w0 : World) (hb : Below base w0 w) :
    Calls Try.prog 24 #[.slice A l.length c] w fun e w' => e = .returned (.tuple #[]) ∧ NR w' A c (sortN l) ∧ Below base w0 w' := by
  rcases Nat.eq_zero_or_pos l.length with h0 | h0
  · have : l = [] := List.eq_nil_of_length_eq_zero h0
    subst this
    obtain ⟨A', c', e, hN, _⟩ := h.form hl
    injection e with e1 e2 e3
    subst e1 e3
    exact (Try.slices_Sort_string_none A c w).mono fun e w' ⟨he, hw⟩ => by
      subst hw
      exact ⟨he, by simpa [sortN] using hN, hb⟩
  · obtain ⟨A', c', e, hN, hA⟩ := h.form hl
    injection e with e1 e2 e3
    subst e1 e3
    obtain ⟨g, rfl, hg⟩ := hA h0
    have hlt : g < w.heap.size := (World.ownsRow.lt h g rfl).2
    have hH : Holds encStr w g 0 l.toArray := by
      intro j hj
      have hj' : j < l.length := by simpa using hj
      refine ⟨?_, by rw [Nat.zero_add]; exact World.ownsRow.frozenAt h j⟩
      rw [Nat.zero_add, World.ownsRow.cellAt h j (by omega)]
      simp only [strs, List.getElem?_map, List.getElem?_eq_getElem hj', Option.map_some]
      rw [getElem!_pos _ j (by simpa using hj'), List.getElem_toArray]
      rfl
    refine (Try.slices_Sort_string g 0 c l w hH hlt (by omega)).mono fun e w' ⟨he, n, os, hw⟩ => ⟨he, ?_, ?_⟩
    · have hs : (sortN l).toArray.size = l.toArray.size := by simp [sortN_len]
      have hH2 := Go.Sort.holds_putRow encStr (Go.Sort.ahead w n) g 0 l.toArray (sortN l).toArray hH hs
      have hH3 := Go.Sort.holds_grow encStr _ os g 0 _ (by simpa using hlt) hH2
      rw [show grow (putRow encStr (Go.Sort.ahead w n) g 0 (sortN l).toArray) os = w' from hw.symm] at hH3
      have hwl : w.heap.size ≤ w'.heap.size := by rw [hw]; simp
      have e : l.length = (sortN l).length := (sortN_len l).symm
      refine ⟨⟨by rw [strs_len]; omega, fun _ => ⟨⟨g, 0, none⟩, rfl, by show g < _; omega, fun j u hu => ?_⟩⟩, by rw [← e]; exact hN.cap, hN.big⟩
      have hj : j < (sortN l).length := by have := (List.getElem?_eq_some_iff.1 hu).1; rwa [strs_len] at this
      have hc := (hH3 j (by simpa using hj)).1
      have ea : (⟨g, 0, none⟩ : Addr).add j = ⟨g, 0 + j, none⟩ := by
        unfold Addr.add
        by_cases hj0 : j = 0
        · subst hj0; rfl
        · rw [if_neg hj0]
      rw [ea, hc, ← hu]
      simp only [strs, List.getElem?_map, List.getElem?_eq_getElem hj, Option.map_some]
      rw [getElem!_pos _ j (by simpa using hj), List.getElem_toArray]
      rfl
    · refine hb.trans ?_
      rw [hw]
      refine ⟨rfl, rfl, rfl, by simp, fun k hk => ?_⟩
      have hkl : k < w.heap.size := by omega
      rw [Go.Sort.heap_grow_old _ _ (by simpa using hkl)]
      simp only [putRow, Go.Sort.mapBlock, Array.getElem?_modify]
      rw [if_neg (by omega)]
      rfl
end Go.Proofs.Ythonoobbpfgjhaa.Od
