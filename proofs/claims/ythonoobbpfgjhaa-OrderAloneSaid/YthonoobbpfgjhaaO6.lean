/- What an order is: each once, behind all that it needs. Plain. -/
import Derived.Test.YthonoobbpfgjhaaO5
set_option linter.unusedVariables false
namespace Go.Proofs.Ythonoobbpfgjhaa.Od
def Ord (L : NL) (o : List Nm) : Prop := ∀ pre m post, o = pre ++ m :: post → m ∉ pre ∧ ∀ y ∈ needsOf L m, y ∈ pre
theorem ord_nil (L : NL) : Ord L [] := fun pre m post h => by simp at h
theorem Ord.snoc {L : NL} {o : List Nm} {m : Nm} (h : Ord L o) (h1 : m ∉ o) (h2 : ∀ y ∈ needsOf L m, y ∈ o) : Ord L (o ++ [m]) := by
  intro pre a post e
  rcases List.eq_nil_or_concat post with hp | ⟨q, b, hp⟩
  · subst hp
    obtain ⟨e1, e2⟩ := List.append_inj' e rfl
    cases e2
    subst e1
    exact ⟨h1, h2⟩
  · subst hp
    have e' : o ++ [m] = (pre ++ a :: q) ++ [b] := by rw [e]; simp
    obtain ⟨e1, e2⟩ := List.append_inj' e' rfl
    exact h pre a q e1
structure DI (L : NL) (x : Sts × List Nm) : Prop where
  two : ∀ n, n ∈ x.2 ↔ x.1 n = 2
  le : ∀ n, x.1 n ≤ 2
  ord : Ord L x.2
structure DS (L : NL) (x y : Sts × List Nm) : Prop where
  inv : DI L y
  one : ∀ n, y.1 n = 1 ↔ x.1 n = 1
  keep : ∀ n, x.1 n = 2 → y.1 n = 2
theorem steps_di {L : NL} {g : Nm → Sts × List Nm → Ans} (hg : ∀ n x y, x.1 n = 0 → DI L x → g n x = .ok y → DS L x y ∧ y.1 n = 2) : ∀ ns x y, DI L x → stepsL g ns x = .ok y → DS L x y ∧ ∀ n ∈ ns, y.1 n = 2
  | [], x, y, hx, h => by
    cases h
    exact ⟨⟨hx, fun n => Iff.rfl, fun n h => h⟩, fun n hn => by cases hn⟩
  | n :: ns, x, y, hx, h => by
    unfold stepsL at h
    split at h
    · cases h
    · rename_i h1
      split at h
      · rename_i h0
        cases e : g n x with
        | error k => rw [e] at h; cases h
        | ok z =>
          rw [e] at h
          obtain ⟨D, d2⟩ := hg n x z h0 hx e
          obtain ⟨E, e2⟩ := steps_di hg ns z y D.inv h
          exact ⟨⟨E.inv, fun k => (E.one k).trans (D.one k), fun k hk => E.keep k (D.keep k hk)⟩, fun k hk => (List.mem_cons.1 hk).elim (fun q => q ▸ E.keep n d2) (e2 k)⟩
      · rename_i h0
        obtain ⟨E, e2⟩ := steps_di hg ns x y hx h
        have : x.1 n = 2 := by have := hx.le n; omega
        exact ⟨E, fun k hk => (List.mem_cons.1 hk).elim (fun q => q ▸ E.keep n this) (e2 k)⟩
theorem dfs_di (L : NL) : ∀ f m x y, x.1 m = 0 → DI L x → dfs L f m x = .ok y → DS L x y ∧ y.1 m = 2
  | 0, m, x, y, _, _, h => by cases h
  | f + 1, m, x, y, h0, hx, h => by
    unfold dfs at h
    cases el : look L m with
    | none => rw [el] at h; cases h
    | some ns =>
      rw [el] at h
      cases es : stepsL (dfs L f) ns (upd x.1 m 1, x.2) with
      | error k => simp only [es] at h; cases h
      | ok z =>
        simp only [es] at h
        cases h
        have hm : m ∉ x.2 := fun h => by have := (hx.two m).1 h; omega
        have hx' : DI L (upd x.1 m 1, x.2) := ⟨fun n => by
          show n ∈ x.2 ↔ upd x.1 m 1 n = 2
          unfold upd
          split
          · rename_i e; subst e; exact ⟨fun h => absurd h hm, fun h => by cases h⟩
          · exact hx.two n, fun n => by
          show upd x.1 m 1 n ≤ 2
          unfold upd
          split
          · decide
          · exact hx.le n, hx.ord⟩
        obtain ⟨E, e2⟩ := steps_di (fun n x y a b c => dfs_di L f n x y a b c) ns _ z hx' es
        have hz1 : z.1 m = 1 := (E.one m).2 (by simp [upd])
        have hmz : m ∉ z.2 := fun h => by have := (E.inv.two m).1 h; omega
        refine ⟨⟨⟨fun n => ?_, fun n => ?_, E.inv.ord.snoc hmz fun y hy => ?_⟩, fun n => ?_, fun n hn => ?_⟩, by simp [upd]⟩
        · show n ∈ z.2 ++ [m] ↔ upd z.1 m 2 n = 2
          unfold upd
          split
          · rename_i e; simp [e]
          · rename_i e; simp [e, E.inv.two n]
        · show upd z.1 m 2 n ≤ 2
          unfold upd
          split
          · decide
          · exact E.inv.le n
        · unfold needsOf at hy
          rw [el] at hy
          exact (E.inv.two y).2 (e2 y hy)
        · show upd z.1 m 2 n = 1 ↔ x.1 n = 1
          by_cases e : n = m
          · subst e; simp [upd, h0]
          · have := E.one n
            simpa [upd, e] using this
        · show upd z.1 m 2 n = 2
          by_cases e : n = m
          · simp [upd, e]
          · have : upd x.1 m 1 n = 2 := by simp [upd, e, hn]
            simp [upd, e, E.keep n this]
end Go.Proofs.Ythonoobbpfgjhaa.Od
