/- The reference's row of steps goes as the walk does. Plain. -/
import Derived.Test.YthonoobbpfgjhaaO2
set_option linter.unusedVariables false
namespace Go.Proofs.Ythonoobbpfgjhaa.Od
/-- A row of those that are under way: the module, and what it needs yet. The last one stands first. -/
abbrev Way := List (Nm × List Nm)
/-- One turn: goes on, or ends. -/
def turn (L : NL) (m : Nm) (ns : List Nm) (w : Way) (x : Sts × List Nm) : Except (Nm × Nat) (Way × (Sts × List Nm)) := match ns with
  | [] => .ok (w, (upd x.1 m 2, x.2 ++ [m]))
  | n :: ns => match look L n with
    | none => .error (n, 3)
    | some l => if x.1 n = 1 then .error (n, 220) else if x.1 n = 0 then .ok ((n, l) :: (m, ns) :: w, (upd x.1 n 1, x.2)) else .ok ((m, ns) :: w, x)
/-- Turns till no one is under way. -/
inductive Runs (L : NL) : Nat → Way → Sts × List Nm → Ans → Prop
  | done {x : Sts × List Nm} : Runs L 0 [] x (.ok x)
  | bad {m : Nm} {ns : List Nm} {w : Way} {x : Sts × List Nm} {e : Nm × Nat} : turn L m ns w x = .error e → Runs L 1 ((m, ns) :: w) x (.error e)
  | go {k : Nat} {m : Nm} {ns : List Nm} {w w' : Way} {x x' : Sts × List Nm} {r : Ans} : turn L m ns w x = .ok (w', x') → Runs L k w' x' r → Runs L (k + 1) ((m, ns) :: w) x r
def Told (L : NL) (s : Sts) : Prop := ∀ n, s n ≠ 0 → look L n ≠ none
theorem Told.upd {L : NL} {s : Sts} (h : Told L s) {m : Nm} (hm : look L m ≠ none) (v : Nat) : Told L (upd s m v) := fun n hn => by
  unfold Od.upd at hn
  split at hn
  · rename_i e; exact e ▸ hm
  · exact h n hn
/-- The row of steps does what the walk does. -/
theorem sim (L : NL) : ∀ f ns m w x, Told L x.1 → fresh L x.1 < f →
    (∀ e, stepsL (dfs L f) ns x = .error e → ∃ k, Runs L k ((m, ns) :: w) x (.error e)) ∧
    (∀ y, stepsL (dfs L f) ns x = .ok y → Told L y.1 ∧ ∀ r k, Runs L k w (upd y.1 m 2, y.2 ++ [m]) r → ∃ k', Runs L k' ((m, ns) :: w) x r) := by
  intro f
  induction f with
  | zero => intro ns m w x _ h; exact absurd h (by omega)
  | succ f ih =>
    intro ns
    induction ns with
    | nil =>
      intro m w x ht h
      refine ⟨fun e he => (by cases he), fun y hy => ?_⟩
      cases hy
      exact ⟨ht, fun r k hr => ⟨k + 1, .go rfl hr⟩⟩
    | cons n ns ih2 =>
      intro m w x ht h
      unfold stepsL
      by_cases h1 : x.1 n = 1
      · rw [if_pos h1]
        refine ⟨fun e he => ?_, fun y hy => by cases hy⟩
        cases he
        cases el : look L n with
        | none => exact absurd el (ht n (by rw [h1]; decide))
        | some l => exact ⟨1, .bad (by unfold turn; simp only [el]; rw [if_pos h1])⟩
      rw [if_neg h1]
      by_cases h0 : x.1 n = 0
      · rw [if_pos h0]
        cases el : look L n with
        | none =>
          have e1 : dfs L (f + 1) n x = .error (n, 3) := by unfold dfs; rw [el]
          rw [e1]
          refine ⟨fun e he => ?_, fun y hy => by cases hy⟩
          cases he
          exact ⟨1, .bad (by unfold turn; simp only [el])⟩
        | some l =>
          have hl : look L n ≠ none := by rw [el]; exact fun h => by cases h
          have hlt := fresh_lt (L := L) (s := x.1) (m := n) (x := 1) (by decide) hl h0
          have I := ih l n ((m, ns) :: w) (upd x.1 n 1, x.2) (ht.upd hl 1) (by show fresh L (upd x.1 n 1) < f; omega)
          have tn : turn L m (n :: ns) w x = .ok ((n, l) :: (m, ns) :: w, (upd x.1 n 1, x.2)) := by unfold turn; simp only [el]; rw [if_neg h1, if_pos h0]
          cases es : stepsL (dfs L f) l (upd x.1 n 1, x.2) with
          | error e =>
            have e1 : dfs L (f + 1) n x = .error e := by unfold dfs; rw [el]; simp only [es]
            rw [e1]
            refine ⟨fun e' he => ?_, fun y hy => by cases hy⟩
            cases he
            obtain ⟨k, hk⟩ := I.1 e es
            exact ⟨k + 1, .go tn hk⟩
          | ok z =>
            have e1 : dfs L (f + 1) n x = .ok (upd z.1 n 2, z.2 ++ [n]) := by unfold dfs; rw [el]; simp only [es]
            rw [e1]
            obtain ⟨tz, hz⟩ := I.2 z es
            have hr : Rise x.1 (upd z.1 n 2) := dfs_rise L (f + 1) n x _ e1
            have J := ih2 m w (upd z.1 n 2, z.2 ++ [n]) (tz.upd hl 2) (Nat.lt_of_le_of_lt (fresh_le hr) h)
            refine ⟨fun e he => ?_, fun y hy => ?_⟩
            · obtain ⟨k, hk⟩ := J.1 e he
              obtain ⟨k', hk'⟩ := hz _ _ hk
              exact ⟨k' + 1, .go tn hk'⟩
            · obtain ⟨ty, hy'⟩ := J.2 y hy
              refine ⟨ty, fun r k hr => ?_⟩
              obtain ⟨k1, hk1⟩ := hy' r k hr
              obtain ⟨k2, hk2⟩ := hz _ _ hk1
              exact ⟨k2 + 1, .go tn hk2⟩
      · rw [if_neg h0]
        have hl : look L n ≠ none := ht n h0
        have J := ih2 m w x ht h
        have tn : turn L m (n :: ns) w x = .ok ((m, ns) :: w, x) := by
          unfold turn
          cases el : look L n with
          | none => exact absurd el hl
          | some l => simp only [el]; rw [if_neg h1, if_neg h0]
        refine ⟨fun e he => ?_, fun y hy => ?_⟩
        · obtain ⟨k, hk⟩ := J.1 e he
          exact ⟨k + 1, .go tn hk⟩
        · obtain ⟨ty, hy'⟩ := J.2 y hy
          refine ⟨ty, fun r k hr => ?_⟩
          obtain ⟨k1, hk1⟩ := hy' r k hr
          exact ⟨k1 + 1, .go tn hk1⟩
/-- From the first module on. -/
theorem sim_top {L : NL} {f : Nat} {m : Nm} {l : List Nm} (hl : look L m = some l) (hf : fresh L (fun _ => 0) < f) : ∃ k, Runs L k [(m, l)] (upd (fun _ => 0) m 1, []) (dfs L f m (fun _ => 0, [])) := by
  cases f with
  | zero => omega
  | succ f =>
    have hl' : look L m ≠ none := by rw [hl]; exact fun h => by cases h
    have hlt := fresh_lt (L := L) (s := fun _ => 0) (m := m) (x := 1) (by decide) hl' rfl
    have I := sim L f l m [] (upd (fun _ => 0) m 1, []) (Told.upd (fun n h => absurd rfl h) hl' 1) (by show fresh L (upd (fun _ => 0) m 1) < f; omega)
    unfold dfs
    rw [hl]
    cases es : stepsL (dfs L f) l (upd (fun _ => 0) m 1, []) with
    | error e => simp only [es]; exact I.1 e es
    | ok z => simp only [es]; exact (I.2 z es).2 _ _ .done
end Go.Proofs.Ythonoobbpfgjhaa.Od
