/- A range over such a map, under way; the laws at the walk's operations. They speak of any program. -/
import Derived.Test.YtibpekgmgidebaaC1
import Derived.Maps.RangeWalk
set_option linter.unusedSimpArgs false
set_option linter.unusedVariables false
namespace Go.Proofs.Ytibpekgmgidebaa.Od
open Go.RowKit
open Go.ChangeMaps (setBlock)
/-- Block r is a range over the map in block b; 'left' is still to come. -/
def IterM (w : World) (r b : Nat) (ks : List Nm) (f : Nm → Value) (left : List Nm) : Prop :=
  ∃ es clock since seen c0, w.heap[b]? = some (.map es clock) ∧ (∀ x ∈ es.toList, x.born < clock) ∧ (es.toList.map (·.born)).Nodup ∧ es.toList.map (fun e => (e.key, e.val)) = ks.map (fun k => (Value.string (S k), f k)) ∧ ks.Nodup ∧
    w.heap[r]? = some (.mapIter (some b) since seen c0) ∧ (∀ x ∈ es.toList, x.born < since) ∧ since ≤ c0 ∧ since ≤ clock ∧ (es.toList.filter fun e => !seen.contains e.born).map (·.key) = left.map (fun k => Value.string (S k))
section
variable {w w' : World} {r b : Nat} {ks left : List Nm} {f : Nm → Value}
theorem IterM.isM (h : IterM w r b ks f left) : IsM w b ks f := by
  obtain ⟨es, clock, since, seen, c0, h1, h2, h3, h4, h5, _⟩ := h
  exact ⟨es, clock, h1, h2, h3, h4, h5⟩
theorem IterM.lt (h : IterM w r b ks f left) : r < w.heap.size := by
  obtain ⟨es, clock, since, seen, c0, _, _, _, _, _, h6, _⟩ := h
  exact (Array.getElem?_eq_some_iff.1 h6).1
theorem IterM.ne (h : IterM w r b ks f left) : r ≠ b := by
  obtain ⟨es, clock, since, seen, c0, h1, _, _, _, _, h6, _⟩ := h
  intro e
  rw [e, h1] at h6
  cases h6
theorem IterM.kept (h : IterM w r b ks f left) (hb : w'.heap[b]? = w.heap[b]?) (hr : w'.heap[r]? = w.heap[r]?) : IterM w' r b ks f left := by
  obtain ⟨es, clock, since, seen, c0, h1, h2, h3, h4, h5, h6, h7⟩ := h
  exact ⟨es, clock, since, seen, c0, hb.trans h1, h2, h3, h4, h5, hr.trans h6, h7⟩
theorem IterM.grown {row : Option Nat} (h : IterM w r b ks f left) (hg : w.grownBy w' row) (hb : some b ≠ row) (hr : some r ≠ row) : IterM w' r b ks f left :=
  h.kept (hg.block b h.isM.lt hb) (hg.block r h.lt hr)
theorem IterM.alloc (h : IterM w r b ks f left) (o : Obj) : IterM (w.alloc o) r b ks f left := h.kept (heap_alloc_old w o h.isM.lt) (heap_alloc_old w o h.lt)
theorem IterM.setCell (h : IterM w r b ks f left) {a : Addr} (hb : b ≠ a.block) (hr : r ≠ a.block) (u : Value) : IterM (w.setCell a u) r b ks f left := by
  refine h.kept ?_ ?_ <;> (unfold World.setCell; simp [Array.getElem?_modify, Ne.symm hb, Ne.symm hr])
theorem keys_inj {es : List MapEntry} {ks : List Nm} {f : Nm → Value} (h : es.map (fun e => (e.key, e.val)) = ks.map (fun k => (Value.string (S k), f k))) {e : MapEntry} (he : e ∈ es) : ∃ k ∈ ks, e.key = .string (S k) ∧ e.val = f k := by
  have : (e.key, e.val) ∈ ks.map (fun k => (Value.string (S k), f k)) := h ▸ List.mem_map.2 ⟨e, he, rfl⟩
  obtain ⟨k, hk, e1⟩ := List.mem_map.1 this
  injection e1 with e1 e2
  exact ⟨k, hk, e1.symm, e2.symm⟩
theorem born_key : ∀ {es : List MapEntry} {ks : List Nm} {f : Nm → Value}, es.map (fun e => (e.key, e.val)) = ks.map (fun k => (Value.string (S k), f k)) → ks.Nodup → (es.map (·.born)).Nodup → ∀ {x e : MapEntry}, x ∈ es → e ∈ es → (x.key = e.key ↔ x.born = e.born) := by
  intro es ks f h hk hb x e hx he
  constructor
  · intro hke
    obtain ⟨i, hi⟩ := List.mem_iff_getElem?.1 hx
    obtain ⟨j, hj⟩ := List.mem_iff_getElem?.1 he
    have e1 := congrArg (fun l : List (Value × Value) => l[i]?) h
    have e2 := congrArg (fun l : List (Value × Value) => l[j]?) h
    simp only [List.getElem?_map, hi, hj, Option.map_some] at e1 e2
    cases hki : ks[i]? with
    | none => rw [hki] at e1; cases e1
    | some k1 =>
      cases hkj : ks[j]? with
      | none => rw [hkj] at e2; cases e2
      | some k2 =>
        rw [hki] at e1
        rw [hkj] at e2
        simp only [Option.map_some, Option.some.injEq, Prod.mk.injEq] at e1 e2
        have : k1 = k2 := by
          have := e1.1.symm.trans (hke.trans e2.1)
          injection this with this
          exact S_inj.1 this
        subst this
        have := nd_inj hk hki hkj
        subst this
        rw [hi] at hj
        injection hj with hj
        rw [hj]
  · intro hbe
    rw [born_inj hb hx he hbe]
variable {P : Program}
theorem IterM.next (h : IterM w r b ks f left) (ty : TypeId) :
    (left = [] ∧ (Instr.next (.pointer (some ⟨r, 0, none⟩)) false ty).run P w = .ok (.tuple #[.bool false]) w) ∨
    ∃ k w', k ∈ left ∧ k ∈ ks ∧ (Instr.next (.pointer (some ⟨r, 0, none⟩)) false ty).run P w = .ok (.tuple #[.bool true, .string (S k), f k]) w' ∧ IterM w' r b ks f (left.filter (fun x => !decide (x = k))) ∧ w.grownBy w' (some r) ∧ w'.heap.size = w.heap.size ∧
      (Instr.entry (.pointer (some ⟨r, 0, none⟩))).run P w' = .ok (.tuple #[.string (S k), f k]) w' := by
  have hne := h.ne
  obtain ⟨es, clock, since, seen, c0, hb, h2, h3, h4, h5, hr, hold, hsc, hsk, hl⟩ := h
  rcases run_next_at (P := P) w ty r b since c0 seen es clock hr hb hold hsc with ⟨h0, hrun⟩ | ⟨e, he, w1, hal, hrun⟩
  · refine .inl ⟨?_, hrun⟩
    have : (es.toList.filter fun e => !seen.contains e.born) = [] := by
      refine List.eq_nil_of_length_eq_zero ?_
      unfold leftOf at h0
      rw [← Array.length_toList] at h0
      simpa using h0
    rw [this] at hl
    simpa using hl.symm
  · obtain ⟨hem, hes⟩ := mem_left he
    obtain ⟨k, hk, e1, e2⟩ := keys_inj h4 hem
    have hkl : k ∈ left := by
      have hm : e.key ∈ (es.toList.filter fun e => !seen.contains e.born).map (·.key) := List.mem_map.2 ⟨e, List.mem_filter.2 ⟨hem, by rw [hes]; rfl⟩, rfl⟩
      rw [hl, e1] at hm
      obtain ⟨k', hk', e3⟩ := List.mem_map.1 hm
      injection e3 with e3
      exact S_inj.1 e3 ▸ hk'
    have hr1 : w1.heap[r]? = some (.mapIter (some b) since seen c0) := by rcases hal with rfl | rfl <;> exact hr
    have hb1 : w1.heap[b]? = some (.map es clock) := by rcases hal with rfl | rfl <;> exact hb
    have hset := MapKept.heap_set (o' := .mapIter (some b) since (seen.push e.born) clock) hr1
    have hb' : (setBlock w1 r (.mapIter (some b) since (seen.push e.born) clock)).heap[b]? = some (.map es clock) := (hset.2 b (fun q => hne q.symm)).trans hb1
    rw [e1, e2] at hrun
    refine .inr ⟨k, _, hkl, hk, hrun, ⟨es, clock, since, seen.push e.born, clock, hb', h2, h3, h4, h5, hset.1, hold, hsk, hsk, ?_⟩, ?_, ?_, ?_⟩
    · have e3 : (es.toList.filter fun x => !(seen.push e.born).contains x.born) = (es.toList.filter fun x => !seen.contains x.born).filter fun x => !(x.born == e.born) := by
        rw [List.filter_filter]
        refine List.filter_congr fun x _ => ?_
        rw [contains_push]
        cases seen.contains x.born <;> cases (x.born == e.born) <;> rfl
      rw [e3]
      have e4 : ((es.toList.filter fun x => !seen.contains x.born).filter fun x => !(x.born == e.born)) = (es.toList.filter fun x => !seen.contains x.born).filter fun x => !(match x.key with | .string s => s == S k | _ => false) := by
        refine List.filter_congr fun x hx => ?_
        have hxm : x ∈ es.toList := (List.mem_filter.1 hx).1
        have := born_key h4 h5 h3 hxm hem
        obtain ⟨k2, _, e5, _⟩ := keys_inj h4 hxm
        rw [e5, e1] at this
        rw [e5]
        simp only [S_beq]
        congr 1
        rw [Bool.eq_iff_iff, beq_iff_eq, decide_eq_true_eq, ← this]
        constructor
        · intro q; injection q with q; exact S_inj.1 q
        · intro q; rw [q]
      rw [e4]
      have e5 : ∀ (l : List MapEntry) (q : List Nm), l.map (·.key) = q.map (fun k => Value.string (S k)) → (l.filter fun x => !(match x.key with | .string s => s == S k | _ => false)).map (·.key) = (q.filter fun x => !decide (x = k)).map (fun k => Value.string (S k)) := by
        intro l
        induction l with
        | nil => intro q h; cases q with
          | nil => rfl
          | cons a q => simp at h
        | cons x l ih =>
          intro q h
          cases q with
          | nil => simp at h
          | cons a q =>
            simp only [List.map_cons, List.cons.injEq] at h
            have := ih q h.2
            rw [List.filter_cons, List.filter_cons, h.1]
            simp only [S_beq]
            by_cases hak : a = k
            · subst hak
              simpa using this
            · simp only [hak, decide_false, Bool.not_false, if_true, List.map_cons, h.1]
              rw [this]
      exact e5 _ _ hl
    · rcases hal with rfl | rfl <;> exact ⟨rfl, rfl, rfl, by simp [setBlock], fun i _ hi => hset.2 i (fun q => hi (by rw [q]))⟩
    · rcases hal with rfl | rfl <;> simp [setBlock]
    · have := run_entry_at (P := P) _ r b since seen es clock e hset.1 hb' hem h3
      rw [e1, e2] at this
      exact this
end
section
variable {P : Program} (w : World) {ops : Array Oper} {rest : List Oper} {o : Oper} {a : Act} {Q : Exit → Act → World → Prop}
theorem wpList_put (hg : o.guard = none) (m x v : Operand) (t : TypeId) (hop : o.op = Op.mapUpdate t m x v) (k e : TypeId) (ht : P.underlying t = some (.map k e)) (hk : P.underlying k = some .string)
    (b : Nat) (ks : List Nm) (f : Nm → Value) (hm : a.eval m = .map (some b)) (h : IsM w b ks f) (n : Nm) (val : Value) (hx : a.eval x = .string (S n)) (hv : a.eval v = val)
    (hK : ∀ w', IsM w' b (if n ∈ ks then ks else ks ++ [n]) (updV f n val) → w.grownBy w' (some b) → wpList P ops Q rest (a.put o.dst undef) w') :
    wpList P ops Q (o :: rest) a w := by
  refine wpList_plain hg fun K' hK' => ?_
  obtain ⟨w', hrun, r1, r2⟩ := h.put ht hk n val
  unfold Oper.wp
  simp [execOp, hop, hm, hx, hv, hrun, Result.andThen]
  exact hK' _ _ (hK w' r1 r2)
theorem wpList_range (hg : o.guard = none) (m : Operand) (t : TypeId) (hop : o.op = Op.range t m) (k e : TypeId) (ht : P.underlying t = some (.map k e)) (b : Nat) (ks : List Nm) (f : Nm → Value)
    (hm : a.eval m = .map (some b)) (h : IsM w b ks f) (r : Nat) (hr : w.heap.size = r)
    (hK : ∀ w', IterM w' r b ks f ks → w.grownBy w' none → w'.heap.size = r + 1 → wpList P ops Q rest (a.put o.dst (.pointer (some ⟨r, 0, none⟩))) w') :
    wpList P ops Q (o :: rest) a w := by
  subst hr
  refine wpList_plain hg fun K' hK' => ?_
  have hlt := h.lt
  obtain ⟨es, clock, hb, h2, h3, h4, h5⟩ := h
  have hrun := run_range_map w t k e b es clock ht hb
  unfold Oper.wp
  simp [execOp, hop, hm, hrun, Result.andThen]
  refine hK' _ _ (hK _ ⟨es, clock, clock, #[], clock, (heap_alloc_old w _ hlt).trans hb, h2, h3, h4, h5, heap_alloc_new w _, h2, Nat.le_refl _, Nat.le_refl _, ?_⟩ (World.grownBy_alloc w _ none) (by simp))
  have := congrArg (List.map Prod.fst) h4
  simp only [List.map_map, Function.comp_def] at this
  have e : (es.toList.filter fun e => !(#[] : Array Nat).contains e.born) = es.toList := by rw [List.filter_eq_self]; intro x _; simp
  rw [e]
  exact this
theorem wpList_next (hg : o.guard = none) (it : Operand) (hop : o.op = Op.next it false) (r b : Nat) (ks left : List Nm) (f : Nm → Value) (hit : a.eval it = .pointer (some ⟨r, 0, none⟩)) (h : IterM w r b ks f left)
    (hDone : left = [] → wpList P ops Q rest (a.put o.dst (.tuple #[.bool false])) w)
    (hMore : ∀ (k : Nm) (w' : World), k ∈ left → k ∈ ks → IterM w' r b ks f (left.filter (fun x => !decide (x = k))) → w.grownBy w' (some r) → w'.heap.size = w.heap.size →
      (Instr.entry (.pointer (some ⟨r, 0, none⟩))).run P w' = .ok (.tuple #[.string (S k), f k]) w' → wpList P ops Q rest (a.put o.dst (.tuple #[.bool true, .string (S k), f k])) w') :
    wpList P ops Q (o :: rest) a w := by
  refine wpList_plain hg fun K' hK' => ?_
  unfold Oper.wp
  rcases h.next (P := P) o.type with ⟨h0, hrun⟩ | ⟨k, w', h1, h2, hrun, h3, h4, h5, h6⟩
  · simp [execOp, hop, hit, hrun, Result.andThen]
    exact hK' _ _ (hDone h0)
  · simp [execOp, hop, hit, hrun, Result.andThen]
    exact hK' _ _ (hMore k w' h1 h2 h3 h4 h5 h6)
end
end Go.Proofs.Ytibpekgmgidebaa.Od
