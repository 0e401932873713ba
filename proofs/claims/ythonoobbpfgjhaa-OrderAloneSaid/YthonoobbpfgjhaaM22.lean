/- What the law on orders asks, plainly; the map of counts. -/
import Derived.Test.YthonoobbpfgjhaaM21
set_option linter.unusedSimpArgs false
set_option linter.unusedVariables false
set_option linter.unusedSectionVars false
namespace Go.Proofs.Ythonoobbpfgjhaa.Od
open Go.RowKit
theorem posOf_in {l : List Nm} {m : Nm} (h : m ∈ l) : 0 ≤ posOf l m ∧ posOf l m < l.length := by
  unfold posOf
  rw [if_pos h]
  have := List.idxOf_lt_length_of_mem h
  omega
theorem posOf_ge {l : List Nm} {m : Nm} : 0 ≤ posOf l m ↔ m ∈ l := by
  constructor
  · intro h
    refine Decidable.byContradiction fun hn => ?_
    rw [posOf_none hn] at h
    omega
  · exact fun h => (posOf_in h).1
theorem posOf_nodup {l : List Nm} (hn : l.Nodup) {i : Nat} (h : i < l.length) : posOf l l[i] = (i : Int) := by
  refine posOf_at h (fun hm => ?_) rfl
  obtain ⟨j, hj, e⟩ := List.mem_iff_getElem.1 hm
  rw [List.length_take] at hj
  rw [List.getElem_take] at e
  have := nd_inj hn (m := l[i]) (i := j) (j := i) (by rw [List.getElem?_eq_getElem (by omega), e]) (List.getElem?_eq_getElem h)
  omega
theorem lookM_nodup {q : List Md} (hn : (names q).Nodup) {i : Nat} (h : i < q.length) : lookM q q[i].1 = some q[i] := by
  rcases posOf_spec q q[i].1 with ⟨_, h2⟩ | ⟨k, hk, h1, h2, h3⟩
  · exact absurd h2 ((told_iff q _).1 (List.mem_map.2 ⟨q[i], List.getElem_mem h, rfl⟩))
  · have h4 := posOf_nodup hn (i := i) (by simp [names]; exact h)
    rw [names_at h, h1] at h4
    have : k = i := by omega
    subst this
    exact h3
theorem needs_nodup {q : List Md} (hn : (names q).Nodup) {i : Nat} (h : i < q.length) : needsOf (nl q) q[i].1 = q[i].2.1 := needs_at (lookM_nodup hn h)
theorem Fine.pos {q : List Md} {m : Nm} {o : List Nm} (h : Fine (nl q) m o) (hn : (names q).Nodup) {i : Nat} (hi : i < q.length) (h0 : 0 ≤ posOf o q[i].1) {n : Nm} (hm : n ∈ q[i].2.1) : 0 ≤ posOf o n ∧ posOf o n < posOf o q[i].1 := by
  have hin := posOf_ge.1 h0
  obtain ⟨a, ha, e⟩ := List.mem_iff_getElem.1 hin
  have hoa : o[a]? = some q[i].1 := by rw [List.getElem?_eq_getElem ha, e]
  obtain ⟨b, hb, e2⟩ := h.ord.ahead hoa (by rw [needs_nodup hn hi]; exact hm)
  obtain ⟨hbl, e3⟩ := List.getElem?_eq_some_iff.1 e2
  have p1 := posOf_nodup h.ord.nodup ha
  have p2 := posOf_nodup h.ord.nodup hbl
  rw [e] at p1
  rw [e3] at p2
  omega
theorem Fine.len {q : List Md} {m : Nm} {o r : List Nm} (h : Fine (nl q) m o) (hr : IsRch (nl q) m r) : o.length = r.length + 1 := by
  have hmo : m ∈ o := (h.mem m).2 (.inl rfl)
  have hnr : m ∉ r := fun hm => h.ord.no_round hmo ((hr.mem m).1 hm)
  have hp : o.Perm (m :: r) := (List.perm_ext_iff_of_nodup h.ord.nodup (List.nodup_cons.2 ⟨hnr, hr.nodup⟩)).2 fun x => by
    rw [h.mem, List.mem_cons, hr.mem]
  rw [hp.length_eq, List.length_cons]
theorem Fine.end_ {q : List Md} {m : Nm} {o : List Nm} (h : Fine (nl q) m o) {n : Nat} (hn : o.length = n + 1) : o[n]? = some m := by
  obtain ⟨p, hp⟩ := h.last
  subst hp
  rw [List.length_append, List.length_singleton] at hn
  have : p.length = n := by omega
  subst this
  simp
theorem mem_sortN {l : List Nm} {x : Nm} : x ∈ sortN l ↔ x ∈ l := (List.mergeSort_perm l _).mem_iff
def missB (q : List Md) (m : Nm) (rs : List Nm) : Bool := decide (m ∉ names q) || rs.any fun x => decide (x ∉ names q)
def rndB (cy : List Nm) (m : Nm) (rs : List Nm) : Bool := decide (m ∈ cy) || rs.any fun x => decide (x ∈ cy)
theorem missB_succ {q : List Md} {m : Nm} {rs : List Nm} {k : Nat} (h : k < rs.length) : missB q m (rs.take (k + 1)) = (missB q m (rs.take k) || decide (rs[k] ∉ names q)) := by
  rw [take_snoc' rs k h]
  simp only [missB, List.any_append, List.any_cons, List.any_nil, Bool.or_false, Bool.or_assoc]
theorem rndB_succ {cy : List Nm} {m : Nm} {rs : List Nm} {k : Nat} (h : k < rs.length) : rndB cy m (rs.take (k + 1)) = (rndB cy m (rs.take k) || decide (rs[k] ∈ cy)) := by
  rw [take_snoc' rs k h]
  simp only [rndB, List.any_append, List.any_cons, List.any_nil, Bool.or_false, Bool.or_assoc]
section
variable {q : List Md} {m : Nm} {r cy : List Nm} (hr : IsRch (nl q) m r) (hc : IsCyc (nl q) cy)
include hr hc
theorem ok_bools {o : List Nm} (h : Fine (nl q) m o) : missB q m (sortN r) = false ∧ rndB (sortN cy) m (sortN r) = false := by
  have ht : ∀ x, x ∈ o → x ∈ names q := fun x hx => by
    have := h.told x hx
    rw [look_nl] at this
    exact (told_iff q x).2 (fun e => this (by rw [e]; rfl))
  have hm : m ∈ o := (h.mem m).2 (.inl rfl)
  have hx : ∀ x, x ∈ sortN r → x ∈ o := fun x hx => (h.mem x).2 (.inr ((hr.mem x).1 (mem_sortN.1 hx)))
  have hcy : ∀ x, x ∈ o → x ∉ sortN cy := fun x hx h' => h.ord.no_round hx ((hc.mem x).1 (mem_sortN.1 h'))
  constructor
  · unfold missB
    rw [Bool.or_eq_false_iff, List.any_eq_false]
    exact ⟨by simpa using ht m hm, fun x h' => by simpa using ht x (hx x h')⟩
  · unfold rndB
    rw [Bool.or_eq_false_iff, List.any_eq_false]
    exact ⟨by simpa using hcy m hm, fun x h' => by simpa using hcy x (hx x h')⟩
theorem none_bools {a : Nm} (h : a = m ∨ Rch (nl q) m a) (hn : look (nl q) a = none) : missB q m (sortN r) = true ∧ a ∉ names q := by
  have ha : a ∉ names q := fun h' => by
    have := (told_iff q a).1 h'
    rw [look_nl] at hn
    cases e : lookM q a with
    | none => exact this e
    | some x => rw [e] at hn; cases hn
  refine ⟨?_, ha⟩
  unfold missB
  rw [Bool.or_eq_true, List.any_eq_true]
  rcases h with h | h
  · subst h; exact .inl (by simpa using ha)
  · exact .inr ⟨a, mem_sortN.2 ((hr.mem a).2 h), by simpa using ha⟩
theorem cyc_bools {a : Nm} (h : a = m ∨ Rch (nl q) m a) (hn : Rch (nl q) a a) : rndB (sortN cy) m (sortN r) = true ∧ a ∈ sortN cy := by
  have ha : a ∈ sortN cy := mem_sortN.2 ((hc.mem a).2 hn)
  refine ⟨?_, ha⟩
  unfold rndB
  rw [Bool.or_eq_true, List.any_eq_true]
  rcases h with h | h
  · subst h; exact .inl (by simpa using ha)
  · exact .inr ⟨a, mem_sortN.2 ((hr.mem a).2 h), by simpa using ha⟩
end
/-- A map of numbers. -/
def cntV (f : Nm → Nat) (n : Nm) : Value := .int .i64 (f n : Nat)
def CntM (w : World) (b : Nat) (f : Nm → Nat) : Prop := ∃ ks, IsM w b ks (cntV f) ∧ ∀ n, n ∉ ks → f n = 0
theorem CntM.lt {w : World} {b : Nat} {f : Nm → Nat} (h : CntM w b f) : b < w.heap.size := by obtain ⟨ks, h, _⟩ := h; exact h.lt
theorem CntM.kept {w w' : World} {b : Nat} {f : Nm → Nat} (h : CntM w b f) (hk : w'.heap[b]? = w.heap[b]?) : CntM w' b f := by obtain ⟨ks, h1, h2⟩ := h; exact ⟨ks, h1.kept hk, h2⟩
theorem CntM.look {w : World} {b : Nat} {f : Nm → Nat} (h : CntM w b f) (n : Nm) : (Instr.lookup 39 (.map (some b)) (.string (S n)) false).run Try.prog w = .ok (.int .i64 ((f n : Nat) : Int)) w := by
  obtain ⟨ks, h1, h2⟩ := h
  exact h1.look Try.underlying39 Try.underlying9 n (z := .int .i64 0) (by kernel_rfl) (fun hm => by unfold cntV; rw [h2 n hm]; rfl)
theorem CntM.put {w' : World} {b : Nat} {f : Nm → Nat} {ks : List Nm} {n : Nm} (h2 : ∀ n, n ∉ ks → f n = 0) (h : IsM w' b (if n ∈ ks then ks else ks ++ [n]) (updV (cntV f) n (.int .i64 ((f n : Nat) + 1 : Int)))) : CntM w' b (fun x => if x = n then f n + 1 else f x) := by
  refine ⟨_, h.congr fun m _ => ?_, fun m hm => ?_⟩
  · unfold updV cntV
    by_cases e : m = n
    · simp [e]
    · simp [e]
  · have hne : m ≠ n := fun e => by
      subst e
      split at hm
      · rename_i h; exact hm h
      · exact hm (by simp)
    show (if m = n then _ else _) = 0
    rw [if_neg hne]
    refine h2 m fun h => hm ?_
    split
    · exact h
    · exact List.mem_append_left _ h
def cnt (q : List Md) (k : Nat) (n : Nm) : Nat := (names (q.take k)).count n
theorem cnt_succ {q : List Md} {k : Nat} (h : k < q.length) : (fun x => if x = q[k].1 then cnt q k q[k].1 + 1 else cnt q k x) = cnt q (k + 1) := by
  funext x
  unfold cnt
  rw [names_succ h, List.count_append, List.count_singleton]
  by_cases e : x = q[k].1
  · subst e; simp
  · have e' : ¬ q[k].1 = x := fun h => e h.symm
    simp [e, e']
theorem cnt_le (q : List Md) (k : Nat) (n : Nm) : cnt q k n ≤ q.length := by
  unfold cnt
  have h1 := List.count_le_length (a := n) (l := names (q.take k))
  have h2 : (names (q.take k)).length ≤ q.length := by simp [names]; omega
  omega
theorem cnt_zero {q : List Md} {n : Nm} : cnt q q.length n = 0 ↔ n ∉ names q := by
  unfold cnt
  rw [List.take_length, List.count_eq_zero]
theorem dup_succ {q : List Md} {k : Nat} (h : k < q.length) : (¬ (names (q.take (k + 1))).Nodup) ↔ (¬ (names (q.take k)).Nodup) ∨ 1 < cnt q (k + 1) q[k].1 := by
  have e : cnt q (k + 1) q[k].1 = cnt q k q[k].1 + 1 := by rw [← cnt_succ h]; simp
  rw [e, names_succ h, List.nodup_append]
  unfold cnt
  constructor
  · intro hn
    by_cases h1 : (names (q.take k)).Nodup
    · right
      have : q[k].1 ∈ names (q.take k) := Decidable.byContradiction fun hm => hn ⟨h1, by simp, fun a ha b hb => by rw [List.mem_singleton] at hb; subst hb; exact fun e => hm (e ▸ ha)⟩
      have := List.count_pos_iff.2 this
      omega
    · exact .inl h1
  · rintro (h1 | h1) ⟨a1, _, a3⟩
    · exact h1 a1
    · have hm : q[k].1 ∈ names (q.take k) := List.count_pos_iff.1 (by omega)
      exact a3 _ hm _ (by simp) rfl
end Go.Proofs.Ythonoobbpfgjhaa.Od
