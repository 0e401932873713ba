/- Rows of names, and of modules with their needs, in memory. They speak of any program. -/
import Derived.Test.YthonoobbpfgjhaaM2
set_option linter.unusedSimpArgs false
set_option linter.unusedVariables false
namespace Go.Proofs.Ythonoobbpfgjhaa.Od
open Go.RowKit
def strs (l : List Nm) : List Value := l.map fun m => .string (S m)
theorem strs_len (l : List Nm) : (strs l).length = l.length := by simp [strs]
theorem S_tl (m : Nm) : (S m).toList = m := by rw [ByteArray.toList_eq]; simp [S]
theorem S_teq (a b : Nm) : ((S a).toList == (S b).toList) = decide (a = b) := by
  rw [S_tl, S_tl, Bool.eq_iff_iff, decide_eq_true_eq, beq_iff_eq]
/-- What a walk wants to know of two texts. -/
theorem S_yes {a b : Nm} (h : a = b) : (S a == S b) = true ∧ ((S a).toList == (S b).toList) = true ∧ (S a != S b) = false ∧ ((S a).toList != (S b).toList) = false := by
  unfold bne
  rw [S_beq, S_teq]; simp [h]
theorem S_no {a b : Nm} (h : a ≠ b) : (S a == S b) = false ∧ ((S a).toList == (S b).toList) = false ∧ (S a != S b) = true ∧ ((S a).toList != (S b).toList) = true := by
  unfold bne
  rw [S_beq, S_teq]; simp [h]
/-- A row of names. -/
structure NR (w : World) (A : Option Addr) (c : Nat) (l : List Nm) : Prop where
  reads : Reads w w.heap.size 1 A l.length (strs l)
  cap : l.length ≤ c
  big : c ≤ 9223372036854775807
theorem NR.below {w w' : World} {A : Option Addr} {c : Nat} {l : List Nm} (h : NR w A c l) (hb : Below w.heap.size w w') : NR w' A c l := ⟨(h.reads.below hb).more hb.size, h.cap, h.big⟩
theorem NR.nil (w : World) : NR w none 0 [] := ⟨Reads.none_, Nat.le_refl _, by omega⟩
theorem NR.at_ {w : World} {A : Option Addr} {c : Nat} {l : List Nm} (h : NR w A c l) {k : Nat} (hk : k < l.length) : ∃ g off, A = some ⟨g, off, none⟩ ∧ g < w.heap.size ∧ w.cell? ⟨g, off + k, none⟩ = some (.string (S l[k])) := by
  obtain ⟨g, off, u, e, hb, hx, hc⟩ := Reads.spot h.reads hk
  refine ⟨g, off, e, hb, ?_⟩
  simp only [strs, List.getElem?_map, List.getElem?_eq_getElem hk, Option.map_some, Option.some.injEq] at hx
  rw [hc, ← hx]
theorem NR.own {w : World} {base e : Nat} {A : Option Addr} {c : Nat} {l : List Nm} (h : w.ownsRow base e 1 (.slice A l.length c) l.length (strs l)) : Reads w w.heap.size 1 A l.length (strs l) := Reads.of_own h
abbrev Md := Nm × List Nm × Value
def modV (x : Md) : List Value := [.string (S x.1), x.2.2]
def nl (q : List Md) : NL := q.map fun x => (x.1, x.2.1)
theorem nl_len (q : List Md) : (nl q).length = q.length := by simp [nl]
theorem modV_len (l : List Md) : (l.flatMap modV).length = l.length * 2 := by
  induction l with
  | nil => rfl
  | cons s l ih => simp only [List.flatMap_cons, List.length_append, List.length_cons] at ih ⊢; rw [ih, show (modV s).length = 2 from rfl]; omega
theorem modV_drop (l : List Md) (k : Nat) : (l.drop k).flatMap modV = (l.flatMap modV).drop (k * 2) := by
  induction l generalizing k with
  | nil => simp
  | cons s l ih =>
    cases k with
    | zero => simp
    | succ k =>
      rw [List.drop_succ_cons, ih k]
      simp only [List.flatMap_cons]
      rw [show (k + 1) * 2 = k * 2 + 1 + 1 from by omega]
      rfl
/-- What a module's needs are, in memory. -/
def Needs (w : World) (x : Md) : Prop := ∃ A c, x.2.2 = .slice A x.2.1.length c ∧ NR w A c x.2.1
theorem Needs.below {w w' : World} {x : Md} (h : Needs w x) (hb : Below w.heap.size w w') : Needs w' x := by
  obtain ⟨A, c, h1, h2⟩ := h
  exact ⟨A, c, h1, h2.below hb⟩
structure Mods (w : World) (A : Option Addr) (c : Nat) (q : List Md) : Prop where
  reads : Reads w w.heap.size 2 A q.length (q.flatMap modV)
  cap : q.length ≤ c
  big : c ≤ 9223372036854775807
  each : ∀ x ∈ q, Needs w x
theorem Mods.below {w w' : World} {A : Option Addr} {c : Nat} {q : List Md} (h : Mods w A c q) (hb : Below w.heap.size w w') : Mods w' A c q :=
  ⟨(h.reads.below hb).more hb.size, h.cap, h.big, fun x hx => (h.each x hx).below hb⟩
theorem Mods.at_ {w : World} {A : Option Addr} {c : Nat} {l : List Md} (h : Mods w A c l) {k : Nat} (hk : k < l.length) : ∃ g off, A = some ⟨g, off, none⟩ ∧ g < w.heap.size ∧ w.cell? ⟨g, off + k * 2, none⟩ = some (.string (S l[k].1)) ∧ w.cell? ⟨g, off + k * 2 + 1, none⟩ = some l[k].2.2 := by
  obtain ⟨⟨g, off, sp⟩, e, hb, hc⟩ := h.reads.2 (by omega)
  have hd : (l.flatMap modV).drop (k * 2) = .string (S l[k].1) :: l[k].2.2 :: (l.drop (k + 1)).flatMap modV := by
    rw [← modV_drop, List.drop_eq_getElem_cons hk]
    rfl
  have hu : ∀ j, (l.flatMap modV)[k * 2 + j]? = (Value.string (S l[k].1) :: l[k].2.2 :: (l.drop (k + 1)).flatMap modV)[j]? := fun j => by rw [← hd, List.getElem?_drop]
  have c0 := hc (k * 2) _ (by have := hu 0; simpa using this)
  have c1 := hc (k * 2 + 1) _ (by have := hu 1; simpa using this)
  have hs : sp = none := by
    have hl : 0 < (l.flatMap modV).length := by rw [modV_len]; omega
    have c9 := hc 0 _ (List.getElem?_eq_getElem hl)
    have := World.cell?_spot c9
    simpa [Addr.add] using this
  subst hs
  have ea : ∀ j, (⟨g, off, none⟩ : Addr).add j = ⟨g, off + j, none⟩ := fun j => by
    unfold Addr.add
    by_cases h0 : j = 0
    · subst h0; rfl
    · rw [if_neg h0]
  rw [ea] at c0 c1
  exact ⟨g, off, e, hb, c0, by rw [Nat.add_assoc]; exact c1⟩
/-- The module that is told first under a name. -/
def lookM : List Md → Nm → Option Md
  | [], _ => none
  | x :: r, m => if x.1 = m then some x else lookM r m
theorem lookM_mem : ∀ {q : List Md} {m : Nm} {x : Md}, lookM q m = some x → x ∈ q ∧ x.1 = m
  | [], _, _, h => by cases h
  | y :: r, m, x, h => by
    unfold lookM at h
    split at h
    · rename_i e; injection h with h; subst h; exact ⟨List.mem_cons_self .., e⟩
    · exact ⟨List.mem_cons_of_mem _ (lookM_mem h).1, (lookM_mem h).2⟩
theorem look_nl : ∀ (q : List Md) (m : Nm), look (nl q) m = (lookM q m).map fun x => x.2.1
  | [], _ => rfl
  | x :: r, m => by
    show (if x.1 = m then some x.2.1 else look (nl r) m) = _
    unfold lookM
    split
    · rfl
    · exact look_nl r m
theorem lookM_none : ∀ {q : List Md} {m : Nm}, lookM q m = none ↔ ∀ x ∈ q, x.1 ≠ m
  | [], _ => by simp [lookM]
  | y :: r, m => by
    unfold lookM
    split
    · rename_i e
      exact ⟨(fun h => by cases h), fun h => absurd e (h y (List.mem_cons_self ..))⟩
    · rename_i e
      rw [lookM_none]
      exact ⟨fun h x hx => (List.mem_cons.1 hx).elim (fun q => q ▸ e) (h x), fun h x hx => h x (List.mem_cons_of_mem _ hx)⟩
theorem lookM_snoc (q : List Md) (y : Md) (m : Nm) : lookM (q ++ [y]) m = match lookM q m with
    | some x => some x
    | none => if y.1 = m then some y else none := by
  induction q with
  | nil => rfl
  | cons x r ih =>
    rw [List.cons_append]
    unfold lookM
    by_cases e : x.1 = m
    · rw [if_pos e, if_pos e]
    · rw [if_neg e, if_neg e]; exact ih
/-- The needs' row under a name, as the map holds it. -/
def needV (q : List Md) (m : Nm) : Value := match lookM q m with
  | some x => x.2.2
  | none => .slice none 0 0
theorem take_snoc' {α : Type} (l : List α) (k : Nat) (h : k < l.length) : l.take (k + 1) = l.take k ++ [l[k]] := by
  rw [List.take_succ_eq_append_getElem h]
end Go.Proofs.Ythonoobbpfgjhaa.Od
