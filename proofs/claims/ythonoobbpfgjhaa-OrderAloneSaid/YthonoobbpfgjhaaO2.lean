/- Who is reached, plainly. -/
import Derived.Test.YthonoobbpfgjhaaO1
set_option linter.unusedVariables false
namespace Go.Proofs.Ythonoobbpfgjhaa.Od
def needsOf (L : NL) (m : Nm) : List Nm := (look L m).getD []
/-- Through a row of needs: each that is not seen is put in and gone through by g. -/
def reachL (g : Nm → List Nm → List Nm) : List Nm → List Nm → List Nm
  | [], s => s
  | n :: ns, s => if n ∈ s then reachL g ns s else reachL g ns (g n (s ++ [n]))
def fromP (L : NL) : Nat → Nm → List Nm → List Nm
  | 0, _, s => s
  | f + 1, m, s => reachL (fromP L f) (needsOf L m) s
/-- All names that are needed by someone. -/
def allN (L : NL) : List Nm := (L.flatMap (·.2)).eraseDups
theorem needs_all {L : NL} {m n : Nm} (h : n ∈ needsOf L m) : n ∈ allN L := by
  unfold needsOf at h
  cases e : look L m with
  | none => rw [e] at h; cases h
  | some ns =>
    rw [e] at h
    unfold allN
    rw [List.mem_eraseDups]
    exact List.mem_flatMap.2 ⟨(m, ns), look_mem e, h⟩
/-- Who is not seen yet. -/
def left (L : NL) (s : List Nm) : Nat := ((allN L).filter fun n => n ∉ s).length
/-- Reached in one step or more. -/
inductive Rch (L : NL) : Nm → Nm → Prop
  | one {m n : Nm} : n ∈ needsOf L m → Rch L m n
  | more {m n k : Nm} : n ∈ needsOf L m → Rch L n k → Rch L m k
/-- What a walk from m makes of what is seen. -/
structure Goes (L : NL) (m : Nm) (ns : List Nm) (s s' : List Nm) : Prop where
  sub : ∀ x ∈ s, x ∈ s'
  new : ∀ x ∈ ns, x ∈ s'
  closed : ∀ x ∈ s', x ∉ s → ∀ y ∈ needsOf L x, y ∈ s'
  only : ∀ x ∈ s', x ∈ s ∨ Rch L m x
  nodup : s.Nodup → s'.Nodup
theorem filter_sub {l : List Nm} {p q : Nm → Bool} (h : ∀ x, p x = true → q x = true) : (l.filter p).length ≤ (l.filter q).length := by
  induction l with
  | nil => exact Nat.le_refl _
  | cons a l ih =>
    rw [List.filter_cons, List.filter_cons]
    by_cases hp : p a = true
    · rw [if_pos hp, if_pos (h a hp)]; simpa using ih
    · rw [if_neg hp]
      split
      · rw [List.length_cons]; omega
      · exact ih
theorem filter_less {l : List Nm} {p q : Nm → Bool} (h : ∀ x, p x = true → q x = true) {m : Nm} (hm : m ∈ l) (h1 : p m = false) (h2 : q m = true) : (l.filter p).length < (l.filter q).length := by
  induction l with
  | nil => cases hm
  | cons a l ih =>
    rw [List.filter_cons, List.filter_cons]
    have hle := filter_sub (l := l) h
    rcases List.mem_cons.1 hm with e | hm'
    · subst e
      rw [if_neg (by rw [h1]; decide), if_pos h2, List.length_cons]; omega
    · have := ih hm'
      by_cases hp : p a = true
      · rw [if_pos hp, if_pos (h a hp)]; simpa using this
      · rw [if_neg hp]
        split
        · rw [List.length_cons]; omega
        · exact this
theorem left_le {L : NL} {s s' : List Nm} (h : ∀ x ∈ s, x ∈ s') : left L s' ≤ left L s :=
  filter_sub fun x hx => by simp only [decide_not, Bool.not_eq_true', decide_eq_false_iff_not] at hx ⊢; exact fun h2 => hx (h x h2)
theorem left_lt {L : NL} {s s' : List Nm} (h : ∀ x ∈ s, x ∈ s') {n : Nm} (hn : n ∈ allN L) (h1 : n ∉ s) (h2 : n ∈ s') : left L s' < left L s :=
  filter_less (fun x hx => by simp only [decide_not, Bool.not_eq_true', decide_eq_false_iff_not] at hx ⊢; exact fun h2 => hx (h x h2)) hn (by simpa using h2) (by simpa using h1)
theorem reachL_goes {L : NL} {g : Nm → List Nm → List Nm} {B : Nat} {m : Nm} (hg : ∀ n s, left L s < B → Goes L n (needsOf L n) s (g n s)) : ∀ ns s, (∀ x ∈ ns, x ∈ needsOf L m) → left L s ≤ B → Goes L m ns s (reachL g ns s)
  | [], s, _, _ => ⟨fun x h => h, (fun x h => by cases h), fun x h h' => absurd h h', fun x h => .inl h, fun h => h⟩
  | n :: ns, s, hns, hb => by
    have hn := hns n (List.mem_cons_self ..)
    have hns' : ∀ x ∈ ns, x ∈ needsOf L m := fun x h => hns x (List.mem_cons_of_mem _ h)
    unfold reachL
    split
    · rename_i hin
      have I := reachL_goes hg ns s hns' hb
      exact ⟨I.sub, fun x h => (List.mem_cons.1 h).elim (fun e => e ▸ I.sub n hin) (I.new x), I.closed, I.only, I.nodup⟩
    · rename_i hin
      have hsub : ∀ x ∈ s, x ∈ s ++ [n] := fun x h => List.mem_append_left _ h
      have hlt := left_lt (L := L) hsub (needs_all hn) hin (by simp)
      have G := hg n (s ++ [n]) (by omega)
      have I := reachL_goes hg ns (g n (s ++ [n])) hns' (by have := left_le (L := L) G.sub; omega)
      have hnn : n ∈ g n (s ++ [n]) := G.sub n (by simp)
      refine ⟨fun x h => I.sub x (G.sub x (hsub x h)), fun x h => ?_, fun x h h' y hy => ?_, fun x h => ?_, fun h => I.nodup (G.nodup ?_)⟩
      · rcases List.mem_cons.1 h with e | h
        · exact e ▸ I.sub n hnn
        · exact I.new x h
      · by_cases hx : x ∈ g n (s ++ [n])
        · by_cases hx2 : x ∈ s ++ [n]
          · rcases List.mem_append.1 hx2 with h3 | h3
            · exact absurd h3 h'
            · have e : x = n := by simpa using h3
              subst e
              exact I.sub y (G.new y hy)
          · exact I.sub y (G.closed x hx hx2 y hy)
        · exact I.closed x h hx y hy
      · rcases I.only x h with h | h
        · rcases G.only x h with h | h
          · rcases List.mem_append.1 h with h | h
            · exact .inl h
            · have e : x = n := by simpa using h
              exact .inr (e ▸ .one hn)
          · exact .inr (.more hn h)
        · exact .inr h
      · rw [List.nodup_append]
        refine ⟨h, by simp, fun a ha b hb' => ?_⟩
        have e : b = n := by simpa using hb'
        subst e
        exact fun e => hin (e ▸ ha)
theorem from_goes (L : NL) : ∀ f m s, left L s < f → Goes L m (needsOf L m) s (fromP L f m s)
  | 0, m, s, h => absurd h (by omega)
  | f + 1, m, s, h => reachL_goes (B := f) (fun n s h => from_goes L f n s h) _ s (fun x h => h) (by omega)
/-- Two rows of just those that are reached, each once, are the same when sorted. -/
theorem reach_same {L : NL} {m : Nm} {s s' : List Nm} (h : s.Nodup) (h' : s'.Nodup) (e : ∀ x, x ∈ s ↔ Rch L m x) (e' : ∀ x, x ∈ s' ↔ Rch L m x) : s.mergeSort (fun x y => decide (x ≤ y)) = s'.mergeSort (fun x y => decide (x ≤ y)) :=
  sort_eq ((List.perm_ext_iff_of_nodup h h').2 fun x => (e x).trans (e' x).symm)
theorem closed_rch {L : NL} {m : Nm} {s : List Nm} (h1 : ∀ x ∈ needsOf L m, x ∈ s) (h2 : ∀ x ∈ s, ∀ y ∈ needsOf L x, y ∈ s) {x : Nm} (h : Rch L m x) : x ∈ s := by
  induction h with
  | one h => exact h1 _ h
  | more h _ ih => exact ih (h2 _ (h1 _ h))
/-- What the program's walk has seen. -/
theorem from_all {L : NL} {m : Nm} {f : Nat} (h : (allN L).length < f) : (fromP L f m []).Nodup ∧ ∀ x, x ∈ fromP L f m [] ↔ Rch L m x := by
  have G := from_goes L f m [] (Nat.lt_of_le_of_lt (List.length_filter_le ..) h)
  refine ⟨G.nodup .nil, fun x => ⟨fun hx => (G.only x hx).elim (fun h => by cases h) id, fun hx => closed_rch G.new (fun y hy => G.closed y hy (by simp)) hx⟩⟩
end Go.Proofs.Ythonoobbpfgjhaa.Od
