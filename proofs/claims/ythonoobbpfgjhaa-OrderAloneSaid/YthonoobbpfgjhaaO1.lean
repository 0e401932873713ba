/- The order of modules, plainly: the walk through the needs, its fuel; who is reached. -/
import Derived.RowKit
set_option linter.unusedVariables false
namespace Go.Proofs.Ythonoobbpfgjhaa.Od
abbrev Nm := List UInt8
abbrev NL := List (Nm × List Nm)
/-- The needs of the module that is told first under a name. -/
def look : NL → Nm → Option (List Nm)
  | [], _ => none
  | (a, ns) :: r, m => if a = m then some ns else look r m
/-- The first name that is told again: behind the names of 'seen'. -/
def again : List Nm → NL → Option Nm
  | _, [] => none
  | seen, (a, _) :: r => if a ∈ seen then some a else again (a :: seen) r
abbrev Sts := Nm → Nat
def upd (s : Sts) (m : Nm) (x : Nat) : Sts := fun n => if n = m then x else s n
abbrev Ans := Except (Nm × Nat) (Sts × List Nm)
/-- Through a row of needs, each by g where it is fresh. -/
def stepsL (g : Nm → Sts × List Nm → Ans) : List Nm → Sts × List Nm → Ans
  | [], x => .ok x
  | n :: ns, x => if x.1 n = 1 then .error (n, 220) else if x.1 n = 0 then
      match g n x with
      | .error e => .error e
      | .ok y => stepsL g ns y
    else stepsL g ns x
/-- 'through': states and order behind a module, or who ends it and how. -/
def dfs (L : NL) : Nat → Nm → Sts × List Nm → Ans
  | 0, m, _ => .error (m, 0)
  | f + 1, m, x => match look L m with
    | none => .error (m, 3)
    | some ns => match stepsL (dfs L f) ns (upd x.1 m 1, x.2) with
      | .error e => .error e
      | .ok y => .ok (upd y.1 m 2, y.2 ++ [m])
/-- Who is told and still fresh. -/
def fresh (L : NL) (s : Sts) : Nat := ((L.map (·.1)).eraseDups.filter fun m => s m = 0).length
theorem look_mem {L : NL} {m : Nm} {ns : List Nm} (h : look L m = some ns) : (m, ns) ∈ L := by
  induction L with
  | nil => cases h
  | cons p r ih =>
    obtain ⟨a, l⟩ := p
    unfold look at h
    split at h
    · rename_i e; cases h; subst e; exact List.mem_cons_self ..
    · exact List.mem_cons_of_mem _ (ih h)
theorem look_none {L : NL} {m : Nm} : look L m = none ↔ m ∉ L.map (·.1) := by
  induction L with
  | nil => simp [look]
  | cons p r ih =>
    obtain ⟨a, l⟩ := p
    unfold look
    split
    · rename_i e; simp [e]
    · rename_i e
      rw [ih, List.map_cons, List.mem_cons]
      exact ⟨fun h h' => h'.elim (fun h2 => e h2.symm) h, fun h h' => h (.inr h')⟩
/-- Rows that rise and have the same members, each as often, are the same. -/
theorem rise_eq {l l' : List Nm} (h : l.Pairwise (· ≤ ·)) (h' : l'.Pairwise (· ≤ ·)) (hp : l.Perm l') : l = l' :=
  hp.eq_of_pairwise (fun a b _ _ h1 h2 => List.le_antisymm h1 h2) h h'
theorem sort_eq {l l' : List Nm} (hp : l.Perm l') : l.mergeSort (fun x y => decide (x ≤ y)) = l'.mergeSort (fun x y => decide (x ≤ y)) := by
  have tr : ∀ a b c : Nm, decide (a ≤ b) = true → decide (b ≤ c) = true → decide (a ≤ c) = true := by
    intro a b c h1 h2
    exact decide_eq_true (List.le_trans (of_decide_eq_true h1) (of_decide_eq_true h2))
  have to : ∀ a b : Nm, (decide (a ≤ b) || decide (b ≤ a)) = true := by
    intro a b
    rcases List.le_total a b with h | h <;> simp [h]
  have hs : ∀ l : List Nm, (l.mergeSort (fun x y => decide (x ≤ y))).Pairwise (· ≤ ·) := fun l =>
    (List.pairwise_mergeSort tr to l).imp fun h => of_decide_eq_true h
  exact rise_eq (hs l) (hs l') (((List.mergeSort_perm ..).trans hp).trans (List.mergeSort_perm ..).symm)
/-- States only rise. -/
def Rise (s s' : Sts) : Prop := ∀ n, s n ≠ 0 → s' n ≠ 0
theorem Rise.refl (s : Sts) : Rise s s := fun n h => h
theorem Rise.trans {a b c : Sts} (h : Rise a b) (h' : Rise b c) : Rise a c := fun n hn => h' n (h n hn)
theorem rise_upd (s : Sts) (m : Nm) {x : Nat} (hx : x ≠ 0) : Rise s (upd s m x) := fun n h => by
  unfold upd; split
  · exact hx
  · exact h
theorem steps_rise {g : Nm → Sts × List Nm → Ans} (hg : ∀ n x y, g n x = .ok y → Rise x.1 y.1) : ∀ ns x y, stepsL g ns x = .ok y → Rise x.1 y.1
  | [], x, y, h => by cases h; exact Rise.refl _
  | n :: ns, x, y, h => by
    unfold stepsL at h
    split at h
    · cases h
    · split at h
      · cases e : g n x with
        | error k => rw [e] at h; cases h
        | ok z => rw [e] at h; exact (hg n x z e).trans (steps_rise hg ns z y h)
      · exact steps_rise hg ns x y h
theorem dfs_rise (L : NL) : ∀ f m x y, dfs L f m x = .ok y → Rise x.1 y.1
  | 0, m, x, y, h => by cases h
  | f + 1, m, x, y, h => by
    unfold dfs at h
    cases e : look L m with
    | none => rw [e] at h; cases h
    | some ns =>
      rw [e] at h
      cases e2 : stepsL (dfs L f) ns (upd x.1 m 1, x.2) with
      | error k => simp only [e2] at h; cases h
      | ok z =>
        simp only [e2] at h
        cases h
        exact ((rise_upd _ m (by decide)).trans (steps_rise (dfs_rise L f) ns _ z e2)).trans (rise_upd _ m (by decide))
theorem fresh_le {L : NL} {s s' : Sts} (h : Rise s s') : fresh L s' ≤ fresh L s := by
  unfold fresh
  refine List.Sublist.length_le ?_
  have : ∀ l : List Nm, (l.filter fun m => s' m = 0).Sublist (l.filter fun m => s m = 0) := by
    intro l
    induction l with
    | nil => exact .slnil
    | cons a l ih =>
      rw [List.filter_cons, List.filter_cons]
      by_cases h0 : s' a = 0
      · have h1 : s a = 0 := Decidable.byContradiction fun h2 => h a h2 h0
        rw [if_pos (by simpa using h0), if_pos (by simpa using h1)]
        exact ih.cons_cons a
      · rw [if_neg (by simpa using h0)]
        split
        · exact ih.cons a
        · exact ih
  exact this _
theorem filter_lt {l : List Nm} {s : Sts} {m : Nm} {x : Nat} (hx : x ≠ 0) (hm : m ∈ l) (h0 : s m = 0) : (l.filter fun n => upd s m x n = 0).length < (l.filter fun n => s n = 0).length := by
  induction l with
  | nil => cases hm
  | cons a l ih =>
    rw [List.filter_cons, List.filter_cons]
    have hle : (l.filter fun n => upd s m x n = 0).length ≤ (l.filter fun n => s n = 0).length := by
      by_cases h : m ∈ l
      · exact Nat.le_of_lt (ih h)
      · refine Nat.le_of_eq (congrArg List.length (List.filter_congr fun n hn => ?_))
        unfold upd
        rw [if_neg (fun (e : n = m) => h (e ▸ hn))]
    by_cases ha : a = m
    · subst ha
      rw [if_neg (by simp [upd, hx]), if_pos (by simpa using h0)]
      rw [List.length_cons]
      omega
    · have hm' : m ∈ l := by
        rcases List.mem_cons.1 hm with h | h
        · exact absurd h.symm ha
        · exact h
      have e : upd s m x a = s a := by unfold upd; rw [if_neg ha]
      rw [e]
      have := ih hm'
      split
      · rw [List.length_cons, List.length_cons]; omega
      · exact this
theorem fresh_lt {L : NL} {s : Sts} {m : Nm} {x : Nat} (hx : x ≠ 0) (hm : look L m ≠ none) (h0 : s m = 0) : fresh L (upd s m x) < fresh L s := by
  unfold fresh
  refine filter_lt hx ?_ h0
  rw [List.mem_eraseDups]
  exact Decidable.byContradiction fun h => hm (look_none.2 h)
theorem steps_fuel {L : NL} {g g' : Nm → Sts × List Nm → Ans} {B : Nat} (hg : ∀ n x, x.1 n = 0 → fresh L x.1 ≤ B → g n x = g' n x) (hr : ∀ n x y, g n x = .ok y → Rise x.1 y.1) : ∀ ns x, fresh L x.1 ≤ B → stepsL g ns x = stepsL g' ns x
  | [], x, h => rfl
  | n :: ns, x, h => by
    unfold stepsL
    split
    · rfl
    · split
      · rename_i h0
        rw [← hg n x h0 h]
        cases e : g n x with
        | error k => rfl
        | ok z => exact steps_fuel hg hr ns z (Nat.le_trans (fresh_le (hr n x z e)) h)
      · exact steps_fuel hg hr ns x h
/-- Enough is enough. -/
theorem dfs_fuel (L : NL) : ∀ f f' m x, x.1 m = 0 → fresh L x.1 < f → fresh L x.1 < f' → dfs L f m x = dfs L f' m x
  | 0, _, m, x, _, h, _ => absurd h (by omega)
  | _, 0, m, x, _, _, h => absurd h (by omega)
  | f + 1, f' + 1, m, x, h0, h, h' => by
    unfold dfs
    cases e : look L m with
    | none => rfl
    | some ns =>
      have hl := fresh_lt (L := L) (s := x.1) (m := m) (x := 1) (by decide) (by rw [e]; exact fun h => by cases h) h0
      have := steps_fuel (L := L) (g := dfs L f) (g' := dfs L f') (B := fresh L (upd x.1 m 1)) (fun n y hy hb => dfs_fuel L f f' n y hy (by omega) (by omega)) (dfs_rise L f) ns (upd x.1 m 1, x.2) (Nat.le_refl _)
      simp only [this]
/-- The order behind a first module, or who ends it. -/
def orderP (L : NL) (first : Nm) : Except (Nm × Nat) (List Nm) := match again [] L with
  | some a => .error (a, 6)
  | none => match dfs L (L.length + 1) first (fun _ => 0, []) with
    | .error e => .error e
    | .ok y => .ok y.2
end Go.Proofs.Ythonoobbpfgjhaa.Od
