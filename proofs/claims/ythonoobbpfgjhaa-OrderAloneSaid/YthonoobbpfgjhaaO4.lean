/- The reference's row of names to be looked at. Plain. -/
import Derived.Test.YthonoobbpfgjhaaO3
set_option linter.unusedVariables false
namespace Go.Proofs.Ythonoobbpfgjhaa.Od
theorem rch_snoc {L : NL} {m n k : Nm} (h : Rch L m n) (hk : k ∈ needsOf L n) : Rch L m k := by
  induction h with
  | one h => exact .more h (.one hk)
  | more h _ ih => exact .more h (ih hk)
/-- Seen s, to do t. -/
structure QI (L : NL) (f : Nm) (s t : List Nm) : Prop where
  nodup : s.Nodup
  only : ∀ x ∈ s, Rch L f x
  todo : ∀ x ∈ t, x = f ∨ x ∈ s
  closed : ∀ x, (x = f ∨ x ∈ s) → x ∉ t → ∀ y ∈ needsOf L x, y ∈ s
/-- Within the round of a: its needs 'dn' are behind it. -/
structure QJ (L : NL) (f a : Nm) (dn s t : List Nm) : Prop where
  nodup : s.Nodup
  only : ∀ x ∈ s, Rch L f x
  todo : ∀ x ∈ t, x = f ∨ x ∈ s
  at_ : a = f ∨ a ∈ s
  closed : ∀ x, (x = f ∨ x ∈ s) → x ∉ t → x ≠ a → ∀ y ∈ needsOf L x, y ∈ s
  dn : ∀ y ∈ dn, y ∈ s
theorem QI.start (L : NL) (f : Nm) : QI L f [] [f] :=
  ⟨.nil, fun x h => (by cases h), fun x h => .inl (by simpa using h), fun x h h' => absurd (h.elim id (fun h => by cases h)) (by simpa using h')⟩
theorem QI.pop {L : NL} {f a : Nm} {s t : List Nm} (h : QI L f s (a :: t)) : QJ L f a [] s t :=
  ⟨h.nodup, h.only, fun x hx => h.todo x (List.mem_cons_of_mem _ hx), h.todo a (List.mem_cons_self ..), fun x hx h1 h2 => h.closed x hx (by rw [List.mem_cons, not_or]; exact ⟨h2, h1⟩), fun y hy => (by cases hy)⟩
theorem QJ.had {L : NL} {f a n : Nm} {dn s t : List Nm} (h : QJ L f a dn s t) (hn : n ∈ s) : QJ L f a (dn ++ [n]) s t :=
  ⟨h.nodup, h.only, h.todo, h.at_, h.closed, fun y hy => (List.mem_append.1 hy).elim (h.dn y) (fun e => by rw [List.mem_singleton] at e; exact e ▸ hn)⟩
theorem QJ.put {L : NL} {f a n : Nm} {dn s t : List Nm} (h : QJ L f a dn s t) (hn : n ∉ s) (ha : n ∈ needsOf L a) : QJ L f a (dn ++ [n]) (s ++ [n]) (t ++ [n]) := by
  refine ⟨?_, fun x hx => ?_, fun x hx => ?_, h.at_.imp id (fun h => List.mem_append_left _ h), fun x hx h1 h2 y hy => ?_, fun y hy => ?_⟩
  · rw [List.nodup_append]
    refine ⟨h.nodup, by simp, fun a' ha' b hb => ?_⟩
    have e : b = n := by simpa using hb
    subst e
    exact fun e => hn (e ▸ ha')
  · rcases List.mem_append.1 hx with hx | hx
    · exact h.only x hx
    · have e : x = n := by simpa using hx
      subst e
      rcases h.at_ with e | e
      · exact e ▸ .one ha
      · exact rch_snoc (h.only a e) ha
  · rcases List.mem_append.1 hx with hx | hx
    · exact (h.todo x hx).imp id (fun h => List.mem_append_left _ h)
    · exact .inr (List.mem_append_right _ hx)
  · rw [List.mem_append, not_or] at h1
    refine List.mem_append_left _ (h.closed x ?_ h1.1 h2 y hy)
    rcases hx with hx | hx
    · exact .inl hx
    · rcases List.mem_append.1 hx with hx | hx
      · exact .inr hx
      · exact absurd hx h1.2
  · rcases List.mem_append.1 hy with hy | hy
    · exact List.mem_append_left _ (h.dn y hy)
    · exact List.mem_append_right _ hy
theorem QJ.close {L : NL} {f a : Nm} {s t : List Nm} (h : QJ L f a (needsOf L a) s t) : QI L f s t :=
  ⟨h.nodup, h.only, h.todo, fun x hx h1 y hy => (Classical.em (x = a)).elim (fun e => h.dn y (e ▸ hy)) (fun e => h.closed x hx h1 e y hy)⟩
theorem QJ.close_at {L : NL} {f a : Nm} {dn s t : List Nm} (h : QJ L f a dn s t) (e : needsOf L a = dn) : QI L f s t := by subst e; exact h.close
/-- At the end: just those that are reached, each once. -/
theorem QI.all {L : NL} {f : Nm} {s : List Nm} (h : QI L f s []) : s.Nodup ∧ ∀ x, x ∈ s ↔ Rch L f x :=
  ⟨h.nodup, fun x => ⟨h.only x, fun hx => closed_rch (h.closed f (.inl rfl) (by simp)) (fun y hy => h.closed y (.inr hy) (by simp)) hx⟩⟩
end Go.Proofs.Ythonoobbpfgjhaa.Od
