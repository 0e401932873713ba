/- Modules told otherwise, and others beside them: plainly, and as a row that is made. -/
import Derived.Test.YthonoobbpfgjhaaM22
set_option linter.unusedSimpArgs false
set_option linter.unusedVariables false
set_option linter.unusedSectionVars false
namespace Go.Proofs.Ythonoobbpfgjhaa.Od
open Go.RowKit
/-- The modules back to front, and some of the others behind them. -/
structure BackI (q more : List Md) (m : Nm) (k : Nat) (bk : List Md) : Prop where
  ex : ∃ ms, bk = q.reverse ++ ms ∧ ms.length ≤ k ∧ ∀ x ∈ ms, x ∈ more ∧ x.1 ≠ m ∧ ¬ Rch (nl q) m x.1 ∧ x.1 ∉ names q
  nodup : (names bk).Nodup
theorem BackI.start {q more : List Md} {m : Nm} (hn : (names q).Nodup) : BackI q more m 0 q.reverse := by
  refine ⟨⟨[], by simp, Nat.le_refl _, fun x hx => by cases hx⟩, ?_⟩
  rw [show names q.reverse = (names q).reverse by simp [names]]
  rw [List.Nodup, List.pairwise_reverse]
  exact List.Pairwise.imp (fun h e => h e.symm) hn
theorem BackI.skip {q more bk : List Md} {m : Nm} {k : Nat} (h : BackI q more m k bk) : BackI q more m (k + 1) bk := by
  obtain ⟨ms, h1, h2, h3⟩ := h.ex
  exact ⟨⟨ms, h1, by omega, h3⟩, h.nodup⟩
theorem BackI.put {q more bk : List Md} {m : Nm} {k : Nat} (h : BackI q more m k bk) {x : Md} (hx : x ∈ more) (h1 : x.1 ≠ m) (h2 : ¬ Rch (nl q) m x.1) (h3 : x.1 ∉ names bk) : BackI q more m (k + 1) (bk ++ [x]) := by
  obtain ⟨ms, e, hl, hm⟩ := h.ex
  refine ⟨⟨ms ++ [x], by rw [e, List.append_assoc], by rw [List.length_append, List.length_singleton]; omega, fun y hy => ?_⟩, ?_⟩
  · rcases List.mem_append.1 hy with hy | hy
    · exact hm y hy
    · rw [List.mem_singleton] at hy
      subst hy
      refine ⟨hx, h1, h2, fun h' => h3 ?_⟩
      rw [e]
      simp only [names, List.map_append, List.map_reverse, List.mem_append, List.mem_reverse]
      exact .inl h'
  · rw [show names (bk ++ [x]) = names bk ++ [x.1] by simp [names], List.nodup_append]
    exact ⟨h.nodup, by simp, fun a ha b hb => by rw [List.mem_singleton] at hb; subst hb; exact fun e => h3 (e ▸ ha)⟩
theorem lookM_mem_nodup {q : List Md} (hn : (names q).Nodup) {x : Md} (hx : x ∈ q) : lookM q x.1 = some x := by
  obtain ⟨i, hi, e⟩ := List.mem_iff_getElem.1 hx
  subst e
  exact lookM_nodup hn hi
theorem BackI.look {q more bk : List Md} {m : Nm} {k : Nat} (h : BackI q more m k bk) (hn : (names q).Nodup) {a : Nm} (ha : a = m ∨ Rch (nl q) m a) : look (nl q) a = look (nl bk) a := by
  obtain ⟨ms, e, hl, hm⟩ := h.ex
  rw [look_nl, look_nl]
  congr 1
  cases hq : lookM q a with
  | some x =>
    obtain ⟨h1, h2⟩ := lookM_mem hq
    have : x ∈ bk := by rw [e]; exact List.mem_append_left _ (List.mem_reverse.2 h1)
    rw [← h2, lookM_mem_nodup h.nodup this]
  | none =>
    refine (lookM_none.2 fun x hx => ?_).symm
    rw [e] at hx
    rcases List.mem_append.1 hx with hx | hx
    · exact lookM_none.1 hq x (List.mem_reverse.1 hx)
    · obtain ⟨_, g1, g2, _⟩ := hm x hx
      exact fun e' => ha.elim (fun h' => g1 (e'.trans h')) (fun h' => g2 (e' ▸ h'))
theorem again_of_nodup {q : List Md} (h : (names q).Nodup) : again [] (nl q) = none :=
  again_none.2 ⟨by rw [show (nl q).map (·.1) = names q by simp [nl, names]]; exact h, fun x _ h => by cases h⟩
theorem BackI.order {q more bk : List Md} {m : Nm} {k : Nat} (h : BackI q more m k bk) (hn : (names q).Nodup) : orderP (nl q) m = orderP (nl bk) m :=
  order_alone (again_of_nodup hn) (again_of_nodup h.nodup) fun i hi => h.look hn hi
theorem BackI.small {q more bk : List Md} {m : Nm} {k : Nat} (h : BackI q more m k bk) (hk : k ≤ 30) (hq : Small q) (hm : Small more) (hq30 : q.length ≤ 30) : Small bk := by
  obtain ⟨ms, e, hl, hx⟩ := h.ex
  have hmem : ∀ x ∈ bk, x ∈ q ∨ x ∈ more := fun x hx' => by
    rw [e] at hx'
    rcases List.mem_append.1 hx' with h1 | h1
    · exact .inl (List.mem_reverse.1 h1)
    · exact .inr (hx x h1).1
  refine ⟨?_, fun x h1 => (hmem x h1).elim (hq.name x) (hm.name x), fun x h1 => (hmem x h1).elim (hq.needs x) (hm.needs x), fun x h1 => (hmem x h1).elim (hq.each x) (hm.each x)⟩
  rw [e, List.length_append, List.length_reverse]
  omega
theorem BackI.needs {q more bk : List Md} {m : Nm} {k : Nat} (h : BackI q more m k bk) {w : World} (hq : ∀ x ∈ q, Needs w x) (hm : ∀ x ∈ more, Needs w x) : ∀ x ∈ bk, Needs w x := by
  obtain ⟨ms, e, hl, hx⟩ := h.ex
  intro x hx'
  rw [e] at hx'
  rcases List.mem_append.1 hx' with h1 | h1
  · exact hq x (List.mem_reverse.1 h1)
  · exact hm x (hx x h1).1
theorem NR.sep {w w' : World} {A : Option Addr} {c : Nat} {l : List Nm} {row : Option Nat} (h : NR w A c l) (hg : w.grownBy w' row) (hs : 0 < l.length → ∃ g, A = some ⟨g, 0, none⟩ ∧ row ≠ some g) : NR w' A c l := by
  refine ⟨⟨h.reads.1, fun hn => ?_⟩, h.cap, h.big⟩
  obtain ⟨ad, e, hb, hc⟩ := h.reads.2 hn
  obtain ⟨g, e2, hne⟩ := hs hn
  rw [e] at e2
  injection e2 with e2
  subst e2
  refine ⟨_, e, Nat.lt_of_lt_of_le hb hg.size, fun j u hu => ?_⟩
  exact hg.cell (hc j u hu) (fun e' => hne (by rw [block_of_add] at e'; exact e'.symm))
/-- The row lies apart from the block that is written. -/
def Sep (w : World) (A : Option Addr) (l : List Nm) (lv : Value) : Prop := 0 < l.length → ∃ g, A = some ⟨g, 0, none⟩ ∧ g < w.heap.size ∧ lv.ownBlock ≠ some g
theorem Sep.step {w w' : World} {A : Option Addr} {l : List Nm} {lv lv' : Value} (h : Sep w A l lv) (hs : w.heap.size ≤ w'.heap.size) (hd : ∀ k, lv'.ownBlock = some k → lv.ownBlock = some k ∨ w.heap.size ≤ k) : Sep w' A l lv' := fun hn => by
  obtain ⟨g, e, h1, h2⟩ := h hn
  exact ⟨g, e, by omega, fun e' => (hd g e').elim h2 (fun h => by omega)⟩
/-- A row of modules of the call's own. -/
def OwnB (base : Nat) (w : World) (lv : Value) (bk : List Md) : Prop := w.ownsRow base 30 2 lv bk.length (bk.flatMap modV)
theorem OwnB.nil (base : Nat) (w : World) : OwnB base w (.slice none 0 0) [] := World.ownsRow_nil w base _ _
theorem OwnB.mods {base : Nat} {w : World} {lv : Value} {bk : List Md} (h : OwnB base w lv bk) (hn : ∀ x ∈ bk, Needs w x) : ∃ A c, lv = .slice A bk.length c ∧ Mods w A c bk := by
  have h0 := h
  rcases h.2 with ⟨rfl, h2⟩ | ⟨g, cap, cur, rfl, _, _, hnc, hms, _⟩
  · have : bk = [] := List.eq_nil_of_length_eq_zero h2
    subst this
    exact ⟨none, 0, rfl, ⟨by simp, fun h => absurd h (by simp)⟩, by simp, by omega, hn⟩
  · exact ⟨_, cap, rfl, Reads.of_own h0, hnc, by have := hms; unfold maxLen at this; omega, hn⟩
theorem infoB : (Try.prog.info? 30).map (fun i => (i.zero, i.size, i.bytes)) = some (some (.agg #[.string ⟨#[]⟩, .slice none 0 0]), 2, 40) := by kernel_rfl
section
variable {ops : Array Oper} {rest : List Oper} {o : Oper} {a : Act} {Q : Exit → Act → World → Prop}
theorem wpList_pushB (wq : World) (hgd : o.guard = none) (s x : Operand) (ho : o.op = .call { callee := .builtin .append, args := #[s, x], argTypes := #[22, 22] })
    (base : Nat) (lv : Value) (bk : List Md) (hs : a.eval s = lv) (h : OwnB base wq lv bk) (hl : bk.length ≤ 1000000) (hb : base ≤ wq.heap.size) (y : Md) (A' : Option Addr) (n' c' : Nat) (hy : y.2.2 = .slice A' n' c') (m : Nat) (hx : a.eval x = .slice (some ⟨m, 0, none⟩) 1 1) (hm : wq.heap.size = m)
    (hK : ∀ lv' w', OwnB base w' lv' (bk ++ [y]) → wq.grownBy w' lv.ownBlock → (∀ k, lv'.ownBlock = some k → lv.ownBlock = some k ∨ wq.heap.size ≤ k) → wpList Try.prog ops Q rest (a.put o.dst lv') w') :
    wpList Try.prog ops Q (o :: rest) a (wq.alloc (.cells #[.string (S y.1), .slice A' n' c'] 30)) := by
  subst hm
  obtain ⟨i0, hi0, hz0, hz1, hz2⟩ := info_parts infoB
  refine wpList_append_lies _ hgd s x _ ho base 30 i0 _ 2 40 Try.underlying22 hi0 hz0 hz1 hz2 rfl (by omega) lv bk.length (bk.flatMap modV) hs (World.ownsRow.alloc h _) ⟨wq.heap.size, 0, none⟩ 1 1 [.string (S y.1), .slice A' n' c'] hx rfl
    (World.news_of_block (cs := #[.string (S y.1), .slice A' n' c']) (heap_alloc_new wq _)) (fun v hv => by simp only [List.mem_cons, List.mem_nil_iff, or_false] at hv; rcases hv with rfl | rfl <;> rfl) (by omega) (by unfold maxLen; omega) (by omega) (by rw [World.size_alloc]; omega) (wq.heap.size + 1) (by rw [World.size_alloc]) ?_
  intro g cap w' hown hgrow hor hlt
  refine hK _ w' ?_ ((World.grownBy_alloc wq _ _).trans hgrow) (fun k hk => ?_)
  · unfold OwnB
    rw [List.length_append, List.flatMap_append]
    have e : [y].flatMap modV = [.string (S y.1), .slice A' n' c'] := by simp [modV, hy]
    rw [e]
    exact hown
  · have hk' : g = k := by simpa [Value.ownBlock] using hk
    subst hk'
    rcases hor with e | e
    · exact .inl e
    · exact .inr (by omega)
end
end Go.Proofs.Ythonoobbpfgjhaa.Od
