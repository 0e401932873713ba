/- A region that draws its order and makes one new block somewhere, its last operation waiting for all others. It speaks of any program. -/
import Derived.Test.YtpomnihgimgpdaaDoorDrawn
set_option linter.unusedSimpArgs false
set_option linter.unusedVariables false
namespace Go.Proofs.YtpomnihgimgpdaaDoor
section
variable {P : Program} {ops : Array Oper} {Q : Exit → Act → World → Prop}
theorem wp_region_one {id : Nat} {a0 : Act} {w : World} (hm : P.follows .mixedOrders = true) (hac : Acyclic .any ops) (h1 : OneDst ops) (hd : DstIn ops a0.tmps.size)
    (hng : ∀ (i : Nat) (o : Oper), ops[i]? = some o → o.guard = none) (val : Nat → Value) (ia it : Nat) (hne : ia ≠ it) (W : World) (hW : W = { w with drawn := w.drawn + 1 }) (ob : Obj) (W2 : World)
    (hread : ∀ (i : Nat) (o : Oper) (L : Nat → Bool) (a : Act), ops[i]? = some o → i ≠ ia → i ≠ it → Slots ops val a0 L a → (∀ e ∈ o.after, Region.binds .any e = true → L e.on = true) →
      ∀ wx : World, (wx = W ∨ wx = W.alloc ob) → ∀ K : Act → World → Prop, K (a.put o.dst (val i)) wx → Oper.wp P o a wx K Q)
    (halloc : ∀ (o : Oper) (a : Act), ops[ia]? = some o → ∀ K : Act → World → Prop, K (a.put o.dst (val ia)) (W.alloc ob) → Oper.wp P o a W K Q)
    (htail : ∀ (o : Oper) (L : Nat → Bool) (a : Act), ops[it]? = some o → Slots ops val a0 L a → (∀ i, i < ops.size → i ≠ it → L i = true) → ∀ K : Act → World → Prop, K (a.put o.dst (val it)) W2 → Oper.wp P o a (W.alloc ob) K Q)
    (hlast : ∀ (o : Oper), ops[it]? = some o → ∀ i, i < ops.size → i ≠ it → ∃ e ∈ o.after, Region.binds .any e = true ∧ e.on = i)
    (hit : it < ops.size) (hia : ia < ops.size)
    (hfin : Q .normal (seqTo ops val a0 ops.size) W2) : (Code.region id ops true).wp P Q a0 w := by
  have hot := Array.getElem?_eq_getElem (xs := ops) (i := it) hit
  refine wp_region_inv hm (fun L a wx => Slots ops val a0 L a ∧ (L it = false → wx = if L ia = true then W.alloc ob else W) ∧ (L it = true → wx = W2)) hac ?_ ?_ ?_
  · exact ⟨Slots.start a0, fun _ => by rw [if_neg (by simp)]; exact hW.symm, fun h => by cases h⟩
  · intro L a wx hall ⟨hs, _, h2⟩
    rw [hs.final hall h1 hd, h2 (hall it hit)]
    exact hfin
  · intro L a wx i o ho hL hpre hcl ⟨hs, hw1, hw2⟩ K hK
    refine step_plain (hng i o ho) ?_
    have hi : i < ops.size := by
      rcases Nat.lt_or_ge i ops.size with h | h
      · exact h
      · rw [Array.getElem?_eq_none h] at ho; cases ho
    by_cases e1 : i = it
    · subst e1
      have hall : ∀ j, j < ops.size → j ≠ i → L j = true := by
        intro j hj hji
        obtain ⟨e, he, hb, hon⟩ := hlast o ho j hj hji
        rw [← hon]; exact hpre e he hb
      have hwx := hw1 hL
      rw [if_pos (hall ia hia hne)] at hwx
      subst hwx
      refine htail o L a ho hs hall K (hK _ _ ⟨hs.put h1 hd ho hL _ (fun _ _ => rfl), fun h => ?_, fun _ => rfl⟩)
      rw [upd_self] at h; cases h
    · have hLt : L it = false := by
        cases h : L it
        · rfl
        · obtain ⟨e, he, hb, hon⟩ := hlast _ hot i hi e1
          have := hcl it _ hot h e he hb
          rw [hon, hL] at this
          cases this
      have hwx := hw1 hLt
      have hup : ∀ wy, wy = (if upd L i ia = true then W.alloc ob else W) → (upd L i it = false → wy = if upd L i ia = true then W.alloc ob else W) ∧ (upd L i it = true → wy = W2) := fun wy h =>
        ⟨fun _ => h, fun h' => by rw [upd_ne (fun e => e1 e.symm), hLt] at h'; cases h'⟩
      by_cases e2 : i = ia
      · subst e2
        rw [if_neg (by rw [hL]; simp)] at hwx
        subst hwx
        exact halloc o a ho K (hK _ _ ⟨hs.put h1 hd ho hL _ (fun _ _ => rfl), hup _ (by rw [upd_self, if_pos rfl])⟩)
      · have hu : upd L i ia = L ia := upd_ne (fun e => e2 e.symm)
        refine hread i o L a ho e2 e1 hs hpre wx ?_ K (hK _ _ ⟨hs.put h1 hd ho hL _ (fun _ _ => rfl), hup _ (by rw [hu]; exact hwx)⟩)
        by_cases h : L ia = true
        · rw [if_pos h] at hwx; exact .inr hwx
        · rw [if_neg h] at hwx; exact .inl hwx
end
end Go.Proofs.YtpomnihgimgpdaaDoor
