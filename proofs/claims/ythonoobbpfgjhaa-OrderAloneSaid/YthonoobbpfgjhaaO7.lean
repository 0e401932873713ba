/- Who ends a walk, and how; who stands in an order; that an order leans on what is reached alone. Plain. -/
import Derived.Test.YthonoobbpfgjhaaO6
set_option linter.unusedVariables false
namespace Go.Proofs.Ythonoobbpfgjhaa.Od
theorem rch_trans {L : NL} {a b c : Nm} (h : Rch L a b) (h' : Rch L b c) : Rch L a c := by
  induction h with
  | one h => exact .more h h'
  | more h _ ih => exact .more h (ih h')
theorem rch_told {L : NL} {a b : Nm} (h : Rch L a b) : look L a ≠ none := by
  have : ∀ n, n ∈ needsOf L a → look L a ≠ none := fun n hn e => by unfold needsOf at hn; rw [e] at hn; cases hn
  cases h with
  | one h => exact this _ h
  | more h _ => exact this _ h
theorem needs_of {L : NL} {m : Nm} {ns : List Nm} (h : look L m = some ns) : needsOf L m = ns := by unfold needsOf; rw [h]; rfl
/-- Who ends it, and how. -/
def Ends (L : NL) (n : Nm) (k : Nat) : Prop := (k = 3 ∧ look L n = none) ∨ (k = 220 ∧ Rch L n n)
theorem di_step {L : NL} {x : Sts × List Nm} {m : Nm} (hx : DI L x) (h0 : x.1 m = 0) : DI L (upd x.1 m 1, x.2) := by
  have hm : m ∉ x.2 := fun h => by have := (hx.two m).1 h; omega
  refine ⟨fun n => ?_, fun n => ?_, hx.ord⟩
  · show n ∈ x.2 ↔ upd x.1 m 1 n = 2
    unfold upd
    split
    · rename_i e; subst e; exact ⟨fun h => absurd h hm, fun h => by cases h⟩
    · exact hx.two n
  · show upd x.1 m 1 n ≤ 2
    unfold upd
    split
    · decide
    · exact hx.le n
theorem steps_err {L : NL} {f : Nat} {m : Nm} (ih : ∀ n x a k, x.1 n = 0 → fresh L x.1 < f → DI L x → (∀ i, x.1 i = 1 → Rch L i n) → dfs L f n x = .error (a, k) → (a = n ∨ Rch L n a) ∧ Ends L a k) :
    ∀ ns x a k, (∀ n ∈ ns, n ∈ needsOf L m) → fresh L x.1 < f → DI L x → (∀ i, x.1 i = 1 → i = m ∨ Rch L i m) → stepsL (dfs L f) ns x = .error (a, k) → Rch L m a ∧ Ends L a k
  | [], x, a, k, _, _, _, _, h => by cases h
  | n :: ns, x, a, k, hns, hf, hd, h1, h => by
    have hn := hns n (List.mem_cons_self ..)
    have hns' : ∀ y ∈ ns, y ∈ needsOf L m := fun y hy => hns y (List.mem_cons_of_mem _ hy)
    unfold stepsL at h
    split at h
    · rename_i e1
      injection h with h; injection h with ha hk; subst ha hk
      refine ⟨.one hn, .inr ⟨rfl, ?_⟩⟩
      rcases h1 n e1 with e | e
      · exact e ▸ .one (e ▸ hn)
      · exact rch_trans e (.one hn)
    · split at h
      · rename_i e0
        cases e : dfs L f n x with
        | error q =>
          obtain ⟨a', k'⟩ := q
          rw [e] at h
          injection h with h; injection h with ha hk; subst ha hk
          obtain ⟨r, en⟩ := ih n x a' k' e0 hf hd (fun i hi => (h1 i hi).elim (fun q => q ▸ .one hn) (fun q => rch_trans q (.one hn))) e
          exact ⟨r.elim (fun q => q ▸ .one hn) (fun q => .more hn q), en⟩
        | ok z =>
          rw [e] at h
          obtain ⟨D, _⟩ := dfs_di L f n x z e0 hd e
          exact steps_err ih ns z a k hns' (Nat.lt_of_le_of_lt (fresh_le (dfs_rise L f n x z e)) hf) D.inv (fun i hi => h1 i ((D.one i).1 hi)) h
      · exact steps_err ih ns x a k hns' hf hd h1 h
theorem dfs_err (L : NL) : ∀ f m x a k, x.1 m = 0 → fresh L x.1 < f → DI L x → (∀ i, x.1 i = 1 → Rch L i m) → dfs L f m x = .error (a, k) → (a = m ∨ Rch L m a) ∧ Ends L a k
  | 0, m, x, a, k, _, h, _, _, _ => absurd h (by omega)
  | f + 1, m, x, a, k, h0, hf, hd, h1, h => by
    unfold dfs at h
    cases el : look L m with
    | none =>
      rw [el] at h
      injection h with h; injection h with ha hk; subst ha hk
      exact ⟨.inl rfl, .inl ⟨rfl, el⟩⟩
    | some ns =>
      rw [el] at h
      cases es : stepsL (dfs L f) ns (upd x.1 m 1, x.2) with
      | ok z => simp only [es] at h; cases h
      | error q =>
        obtain ⟨a', k'⟩ := q
        simp only [es] at h
        injection h with h; injection h with ha hk; subst ha hk
        have hlt := fresh_lt (L := L) (s := x.1) (m := m) (x := 1) (by decide) (by rw [el]; exact fun h => by cases h) h0
        have := steps_err (L := L) (f := f) (m := m) (fun n x a k => dfs_err L f n x a k) ns (upd x.1 m 1, x.2) a' k' (fun n hn => by rw [needs_of el]; exact hn) (by show fresh L (upd x.1 m 1) < f; omega) (di_step hd h0) (fun i hi => by
          by_cases e : i = m
          · exact .inl e
          · have hi' : upd x.1 m 1 i = 1 := hi
            simp only [upd, if_neg e] at hi'
            exact .inr (h1 i hi')) es
        exact ⟨.inr this.1, this.2⟩
/-- Who stands in the row behind a walk. -/
theorem steps_mem {L : NL} {f : Nat} {m : Nm} (ih : ∀ n x y, dfs L f n x = .ok y → ∀ i ∈ y.2, i ∈ x.2 ∨ ((i = n ∨ Rch L n i) ∧ look L i ≠ none)) :
    ∀ ns x y, (∀ n ∈ ns, n ∈ needsOf L m) → stepsL (dfs L f) ns x = .ok y → ∀ i ∈ y.2, i ∈ x.2 ∨ (Rch L m i ∧ look L i ≠ none)
  | [], x, y, _, h => by cases h; exact fun i hi => .inl hi
  | n :: ns, x, y, hns, h => by
    have hn := hns n (List.mem_cons_self ..)
    have hns' : ∀ y ∈ ns, y ∈ needsOf L m := fun y hy => hns y (List.mem_cons_of_mem _ hy)
    unfold stepsL at h
    split at h
    · cases h
    · split at h
      · cases e : dfs L f n x with
        | error q => rw [e] at h; cases h
        | ok z =>
          rw [e] at h
          intro i hi
          rcases steps_mem ih ns z y hns' h i hi with hi | hi
          · rcases ih n x z e i hi with hi | ⟨hi, ht⟩
            · exact .inl hi
            · exact .inr ⟨hi.elim (fun q => q ▸ .one hn) (fun q => .more hn q), ht⟩
          · exact .inr hi
      · exact steps_mem ih ns x y hns' h
theorem dfs_mem (L : NL) : ∀ f m x y, dfs L f m x = .ok y → ∀ i ∈ y.2, i ∈ x.2 ∨ ((i = m ∨ Rch L m i) ∧ look L i ≠ none)
  | 0, m, x, y, h => by cases h
  | f + 1, m, x, y, h => by
    unfold dfs at h
    cases el : look L m with
    | none => rw [el] at h; cases h
    | some ns =>
      rw [el] at h
      cases es : stepsL (dfs L f) ns (upd x.1 m 1, x.2) with
      | error q => simp only [es] at h; cases h
      | ok z =>
        simp only [es] at h
        cases h
        intro i hi
        rcases List.mem_append.1 hi with hi | hi
        · rcases steps_mem (L := L) (f := f) (m := m) (fun n x y => dfs_mem L f n x y) ns _ z (fun n hn => by rw [needs_of el]; exact hn) es i hi with hi | hi
          · exact .inl hi
          · exact .inr ⟨.inr hi.1, hi.2⟩
        · rw [List.mem_singleton] at hi
          subst hi
          exact .inr ⟨.inl rfl, by rw [el]; exact fun h => by cases h⟩
theorem Ord.nodup {L : NL} : ∀ {o : List Nm}, Ord L o → o.Nodup := by
  intro o h
  have : ∀ (post pre : List Nm), o = pre ++ post → pre.Nodup → (pre ++ post).Nodup := by
    intro post
    induction post with
    | nil => intro pre _ hp; simpa using hp
    | cons a post ih =>
      intro pre e hp
      have hm := (h pre a post e).1
      have := ih (pre ++ [a]) (by rw [e]; simp) (by
        rw [List.nodup_append]
        exact ⟨hp, by simp, fun x hx b hb => by rw [List.mem_singleton] at hb; subst hb; exact fun e => hm (e ▸ hx)⟩)
      simpa using this
  exact this o [] rfl .nil
/-- What is needed stands ahead. -/
theorem Ord.ahead {L : NL} {o : List Nm} (h : Ord L o) {i : Nat} {m y : Nm} (hi : o[i]? = some m) (hy : y ∈ needsOf L m) : ∃ j, j < i ∧ o[j]? = some y := by
  obtain ⟨hl, e⟩ := List.getElem?_eq_some_iff.1 hi
  have e2 : o = o.take i ++ m :: o.drop (i + 1) := by
    rw [← e, List.getElem_cons_drop, List.take_append_drop]
  have := (h _ _ _ e2).2 y hy
  obtain ⟨j, hj, hjy⟩ := List.mem_iff_getElem.1 this
  rw [List.length_take] at hj
  refine ⟨j, by omega, ?_⟩
  rw [List.getElem_take] at hjy
  rw [List.getElem?_eq_getElem (by omega), hjy]
theorem Ord.rch {L : NL} {o : List Nm} (h : Ord L o) {m y : Nm} (r : Rch L m y) : ∀ {i : Nat}, o[i]? = some m → ∃ j, j < i ∧ o[j]? = some y := by
  induction r with
  | one hy => intro i hi; exact h.ahead hi hy
  | more hy _ ih =>
    intro i hi
    obtain ⟨j, hj, e⟩ := h.ahead hi hy
    obtain ⟨j2, hj2, e2⟩ := ih e
    exact ⟨j2, by omega, e2⟩
theorem nd_inj {o : List Nm} (h : o.Nodup) {i j : Nat} {m : Nm} (hi : o[i]? = some m) (hj : o[j]? = some m) : i = j := by
  obtain ⟨l1, e1⟩ := List.getElem?_eq_some_iff.1 hi
  obtain ⟨l2, e2⟩ := List.getElem?_eq_some_iff.1 hj
  have hp := List.pairwise_iff_getElem.1 h
  rcases Nat.lt_trichotomy i j with q | q | q
  · exact absurd (e1.trans e2.symm) (hp i j l1 l2 q)
  · exact q
  · exact absurd (e2.trans e1.symm) (hp j i l2 l1 q)
theorem Ord.no_round {L : NL} {o : List Nm} (h : Ord L o) {m : Nm} (hm : m ∈ o) : ¬ Rch L m m := by
  intro r
  obtain ⟨i, hi⟩ := List.mem_iff_getElem?.1 hm
  obtain ⟨j, hj, e⟩ := h.rch r hi
  have := nd_inj h.nodup hi e
  omega
theorem fresh_le_len (L : NL) (s : Sts) : fresh L s ≤ L.length := by
  unfold fresh
  have h1 := List.length_filter_le (fun m => decide (s m = 0)) (L.map (·.1)).eraseDups
  have : ∀ (n : Nat) (l : List Nm), l.length ≤ n → l.eraseDups.length ≤ l.length := by
    intro n
    induction n with
    | zero => intro l h; have : l = [] := List.eq_nil_of_length_eq_zero (by omega); subst this; simp
    | succ n ih =>
      intro l h
      cases l with
      | nil => simp
      | cons a l =>
        rw [List.eraseDups_cons, List.length_cons, List.length_cons]
        have h2 := List.length_filter_le (fun b => !b == a) l
        simp only [List.length_cons] at h
        have := ih (l.filter fun b => !b == a) (by omega)
        omega
  have h2 := this _ (L.map (·.1)) (Nat.le_refl _)
  simp only [List.length_map] at h2
  omega
theorem di_start (L : NL) : DI L (fun _ => 0, []) := ⟨fun n => by simp, fun n => by simp, ord_nil L⟩
/-- An order: just the first one and who is reached, each told, none of them round; the first one last. -/
structure Fine (L : NL) (first : Nm) (o : List Nm) : Prop where
  ord : Ord L o
  mem : ∀ x, x ∈ o ↔ x = first ∨ Rch L first x
  told : ∀ x ∈ o, look L x ≠ none
  last : ∃ p, o = p ++ [first]
theorem order_fine {L : NL} {first : Nm} {o : List Nm} (h : orderP L first = .ok o) : again [] L = none ∧ Fine L first o := by
  unfold orderP at h
  split at h
  · cases h
  · rename_i ha
    split at h
    · cases h
    · rename_i y e
      injection h with h
      subst h
      obtain ⟨D, d2⟩ := dfs_di L _ _ _ _ rfl (di_start L) e
      have hm := dfs_mem L _ _ _ _ e
      have hin : first ∈ y.2 := (D.inv.two first).2 d2
      refine ⟨ha, D.inv.ord, fun x => ⟨fun hx => ((hm x hx).elim (fun h => by cases h) (fun h => h.1)), fun hx => ?_⟩, fun x hx => (hm x hx).elim (fun h => by cases h) (fun h => h.2), ?_⟩
      · rcases hx with rfl | hx
        · exact hin
        · obtain ⟨i, hi⟩ := List.mem_iff_getElem?.1 hin
          obtain ⟨j, _, hj⟩ := D.inv.ord.rch hx hi
          exact List.mem_of_getElem? hj
      · unfold dfs at e
        split at e
        · cases e
        · split at e
          · cases e
          · injection e with e
            exact ⟨_, by rw [← e]⟩
theorem order_ends {L : NL} {first a : Nm} {k : Nat} (h : orderP L first = .error (a, k)) : (again [] L = some a ∧ k = 6) ∨ (again [] L = none ∧ (a = first ∨ Rch L first a) ∧ Ends L a k) := by
  unfold orderP at h
  split at h
  · rename_i b hb
    injection h with h; injection h with h1 h2; subst h1 h2
    exact .inl ⟨hb, rfl⟩
  · rename_i ha
    split at h
    · rename_i q e
      injection h with h
      subst h
      exact .inr ⟨ha, dfs_err L _ _ _ _ _ rfl (Nat.lt_succ_of_le (fresh_le_len L _)) (di_start L) (fun i hi => by cases hi) e⟩
    · cases h
/-- An order leans on who is reached alone. -/
theorem steps_congr {L L' : NL} {f : Nat} {m : Nm} (ih : ∀ n x, (∀ i, i = n ∨ Rch L n i → look L i = look L' i) → dfs L f n x = dfs L' f n x) (hl : ∀ i, Rch L m i → look L i = look L' i) :
    ∀ ns x, (∀ n ∈ ns, n ∈ needsOf L m) → stepsL (dfs L f) ns x = stepsL (dfs L' f) ns x
  | [], x, _ => rfl
  | n :: ns, x, hns => by
    have hn := hns n (List.mem_cons_self ..)
    have hns' : ∀ y ∈ ns, y ∈ needsOf L m := fun y hy => hns y (List.mem_cons_of_mem _ hy)
    unfold stepsL
    rw [ih n x (fun i hi => hl i (hi.elim (fun q => q ▸ .one hn) (fun q => .more hn q)))]
    split
    · rfl
    · split
      · cases dfs L' f n x with
        | error q => rfl
        | ok z => exact steps_congr ih hl ns z hns'
      · exact steps_congr ih hl ns x hns'
theorem dfs_congr {L L' : NL} : ∀ f m x, (∀ i, i = m ∨ Rch L m i → look L i = look L' i) → dfs L f m x = dfs L' f m x
  | 0, m, x, _ => rfl
  | f + 1, m, x, h => by
    unfold dfs
    rw [← h m (.inl rfl)]
    cases el : look L m with
    | none => rfl
    | some ns =>
      have := steps_congr (L := L) (L' := L') (f := f) (m := m) (fun n x => dfs_congr f n x) (fun i hi => h i (.inr hi)) ns (upd x.1 m 1, x.2) (fun n hn => by rw [needs_of el]; exact hn)
      simp only [this]
theorem order_alone {L L' : NL} {first : Nm} (h : again [] L = none) (h' : again [] L' = none) (hl : ∀ i, i = first ∨ Rch L first i → look L i = look L' i) : orderP L first = orderP L' first := by
  unfold orderP
  rw [h, h']
  have e1 := dfs_fuel L (L.length + 1) (L.length + L'.length + 1) first (fun _ => 0, []) rfl (Nat.lt_succ_of_le (fresh_le_len L _)) (by have := fresh_le_len L (fun _ => 0); show fresh L (fun _ => 0) < _; omega)
  have e2 := dfs_fuel L' (L'.length + 1) (L.length + L'.length + 1) first (fun _ => 0, []) rfl (Nat.lt_succ_of_le (fresh_le_len L' _)) (by have := fresh_le_len L' (fun _ => 0); show fresh L' (fun _ => 0) < _; omega)
  rw [e1, e2, dfs_congr _ _ _ hl]
/-- Who is told again. -/
theorem again_some : ∀ {L : NL} {seen : List Nm} {a : Nm}, again seen L = some a → a ∈ L.map (·.1) ∧ (a ∈ seen ∨ 1 < (L.map (·.1)).count a)
  | [], _, _, h => by cases h
  | (b, ns) :: r, seen, a, h => by
    unfold again at h
    split at h
    · rename_i hb
      injection h with h
      subst h
      exact ⟨List.mem_cons_self .., .inl hb⟩
    · rename_i hb
      obtain ⟨h1, h2⟩ := again_some h
      refine ⟨List.mem_cons_of_mem _ h1, ?_⟩
      rcases h2 with h2 | h2
      · rcases List.mem_cons.1 h2 with e | h2
        · subst e
          refine .inr ?_
          rw [List.map_cons, List.count_cons]
          have := List.count_pos_iff.2 h1
          simp only [beq_self_eq_true, if_true]
          omega
        · exact .inl h2
      · refine .inr ?_
        rw [List.map_cons, List.count_cons]
        omega
theorem again_none : ∀ {L : NL} {seen : List Nm}, again seen L = none ↔ (L.map (·.1)).Nodup ∧ ∀ x ∈ L.map (·.1), x ∉ seen
  | [], _ => by simp [again]
  | (b, ns) :: r, seen => by
    unfold again
    split
    · rename_i hb
      exact ⟨(fun h => by cases h), fun h => absurd hb (h.2 b (List.mem_cons_self ..))⟩
    · rename_i hb
      rw [again_none, List.map_cons, List.nodup_cons]
      constructor
      · intro ⟨h1, h2⟩
        refine ⟨⟨fun hm => h2 b hm (List.mem_cons_self ..), h1⟩, fun x hx => ?_⟩
        rcases List.mem_cons.1 hx with e | hx
        · exact e ▸ hb
        · exact fun h => h2 x hx (List.mem_cons_of_mem _ h)
      · intro ⟨⟨h1, h2⟩, h3⟩
        refine ⟨h2, fun x hx h => ?_⟩
        rcases List.mem_cons.1 h with e | h
        · exact h1 (e ▸ hx)
        · exact h3 x (List.mem_cons_of_mem _ hx) h
theorem look_nodup {L : NL} (h : (L.map (·.1)).Nodup) {m : Nm} {ns : List Nm} (hm : (m, ns) ∈ L) : look L m = some ns := by
  induction L with
  | nil => cases hm
  | cons p r ih =>
    obtain ⟨a, l⟩ := p
    rw [List.map_cons, List.nodup_cons] at h
    unfold look
    rcases List.mem_cons.1 hm with e | hm
    · injection e with e1 e2; subst e1 e2; rw [if_pos rfl]
    · rw [if_neg (fun (e : a = m) => h.1 (e ▸ List.mem_map.2 ⟨(m, ns), hm, rfl⟩))]
      exact ih h.2 hm
end Go.Proofs.Ythonoobbpfgjhaa.Od
