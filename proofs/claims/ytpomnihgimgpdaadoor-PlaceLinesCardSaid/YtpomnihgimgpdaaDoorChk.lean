/- Checks of a region's operations, as Booleans that the kernel reckons. They speak of any program. -/
import Derived.Test.YtpomnihgimgpdaaDoorOne
set_option linter.unusedSimpArgs false
set_option linter.unusedVariables false
namespace Go.Proofs.YtpomnihgimgpdaaDoor

/-- The n-th region of a code. -/
def regionOf (n : Nat) : Code → Option (Array Oper)
  | .region id ops _ => if id = n then some ops else none
  | .seq a b => match regionOf n a with
    | some o => some o
    | none => regionOf n b
  | .block _ c => regionOf n c
  | .scope c => regionOf n c
  | .loop c => regionOf n c
  | .cond _ a b => match regionOf n a with
    | some o => some o
    | none => regionOf n b
  | _ => none

/-- What a tool sees of an operation: what it is, where it writes, whether it waits for the j-th. -/
def waits (o : Oper) (j : Nat) : Bool := o.after.any fun e => e.on == j && Region.binds .any e
theorem waits_spec {o : Oper} {j : Nat} (h : waits o j = true) : ∃ e ∈ o.after, e.on = j ∧ Region.binds .any e = true := by
  unfold waits at h
  rw [Array.any_eq_true'] at h
  obtain ⟨e, he, h⟩ := h
  rw [Bool.and_eq_true, beq_iff_eq] at h
  exact ⟨e, he, h.1, h.2⟩

theorem seen {ops : Array Oper} {i : Nat} {p : Op} {d : Option Tmp} (h : (ops[i]?).map (fun o => (o.op, o.dst)) = some (p, d)) : ∃ o, ops[i]? = some o ∧ o.op = p ∧ o.dst = d := by
  rw [Option.map_eq_some_iff] at h
  obtain ⟨o, ho, h⟩ := h
  injection h with h1 h2
  exact ⟨o, ho, h1, h2⟩
theorem seen1 {ops : Array Oper} {i j : Nat} {p : Op} {d : Option Tmp} (h : (ops[i]?).map (fun o => (o.op, o.dst, waits o j)) = some (p, d, true)) :
    ∃ o, ops[i]? = some o ∧ o.op = p ∧ o.dst = d ∧ ∃ e ∈ o.after, e.on = j ∧ Region.binds .any e = true := by
  rw [Option.map_eq_some_iff] at h
  obtain ⟨o, ho, h⟩ := h
  injection h with h1 h2
  injection h2 with h2 h3
  exact ⟨o, ho, h1, h2, waits_spec h3⟩
theorem seen2 {ops : Array Oper} {i j l : Nat} {p : Op} {d : Option Tmp} (h : (ops[i]?).map (fun o => (o.op, o.dst, waits o j, waits o l)) = some (p, d, true, true)) :
    ∃ o, ops[i]? = some o ∧ o.op = p ∧ o.dst = d ∧ (∃ e ∈ o.after, e.on = j ∧ Region.binds .any e = true) ∧ ∃ e ∈ o.after, e.on = l ∧ Region.binds .any e = true := by
  rw [Option.map_eq_some_iff] at h
  obtain ⟨o, ho, h⟩ := h
  injection h with h1 h2
  injection h2 with h2 h3
  injection h3 with h3 h4
  exact ⟨o, ho, h1, h2, waits_spec h3, waits_spec h4⟩

/-- Checks of a whole region, as Booleans. -/
def acyclicB (ops : Array Oper) : Bool := (List.range ops.size).all fun i => ((ops[i]?).map fun o => o.after.all fun e => !Region.binds .any e || decide (e.on < i)).getD true
theorem acyclic_of {ops : Array Oper} (h : acyclicB ops = true) : Acyclic .any ops := by
  intro i o ho e he hb
  have hi : i < ops.size := (Array.getElem?_eq_some_iff.1 ho).1
  unfold acyclicB at h
  rw [List.all_eq_true] at h
  have := h i (by simpa using hi)
  rw [ho] at this
  simp only [Option.map_some, Option.getD_some, Array.all_eq_true_iff_forall_mem] at this
  have := this e he
  rw [hb] at this
  simpa using this
def dstAt (ops : Array Oper) (i : Nat) : Option Tmp := (ops[i]?).bind (·.dst)
def oneB (ops : Array Oper) : Bool := (List.range ops.size).all fun i => (List.range ops.size).all fun j => i == j || (dstAt ops i).isNone || dstAt ops i != dstAt ops j
theorem one_of {ops : Array Oper} (h : oneB ops = true) : OneDst ops := by
  intro i j oi oj d hi hj di dj
  have hi' : i < ops.size := (Array.getElem?_eq_some_iff.1 hi).1
  have hj' : j < ops.size := (Array.getElem?_eq_some_iff.1 hj).1
  unfold oneB at h
  rw [List.all_eq_true] at h
  have := h i (by simpa using hi')
  rw [List.all_eq_true] at this
  have := this j (by simpa using hj')
  simp [dstAt, hi, hj, di, dj] at this
  exact this
def dstInB (ops : Array Oper) (n : Nat) : Bool := (List.range ops.size).all fun i => ((dstAt ops i).map fun d => decide (d < n)).getD true
theorem dstIn_of {ops : Array Oper} {n : Nat} (h : dstInB ops n = true) : DstIn ops n := by
  intro i o d hi hd
  have hi' : i < ops.size := (Array.getElem?_eq_some_iff.1 hi).1
  unfold dstInB at h
  rw [List.all_eq_true] at h
  have := h i (by simpa using hi')
  simpa [dstAt, hi, hd] using this
def keepB (ops : Array Oper) (d : Tmp) : Bool := (List.range ops.size).all fun i => dstAt ops i != some d
theorem keep_of {ops : Array Oper} {d : Tmp} (h : keepB ops d = true) : ∀ (i : Nat) (o : Oper), ops[i]? = some o → o.dst ≠ some d := by
  intro i o hi hd
  have hi' : i < ops.size := (Array.getElem?_eq_some_iff.1 hi).1
  unfold keepB at h
  rw [List.all_eq_true] at h
  have := h i (by simpa using hi')
  simp [dstAt, hi, hd] at this
def plainB (ops : Array Oper) : Bool := (List.range ops.size).all fun i => ((ops[i]?).map fun o => o.guard.isNone).getD true
theorem plain_of {ops : Array Oper} (h : plainB ops = true) : ∀ (i : Nat) (o : Oper), ops[i]? = some o → o.guard = none := by
  intro i o hi
  have hi' : i < ops.size := (Array.getElem?_eq_some_iff.1 hi).1
  unfold plainB at h
  rw [List.all_eq_true] at h
  have := h i (by simpa using hi')
  rw [hi] at this
  simpa using this

theorem last_of {ops : Array Oper} {it : Nat} (h : ((List.range ops.size).all fun i => i == it || ((ops[it]?).map fun o => waits o i).getD false) = true) :
    ∀ (o : Oper), ops[it]? = some o → ∀ i, i < ops.size → i ≠ it → ∃ e ∈ o.after, Region.binds .any e = true ∧ e.on = i := by
  intro o ho i hi hne
  rw [List.all_eq_true] at h
  have := h i (by simpa using hi)
  rw [ho] at this
  simp only [Option.map_some, Option.getD_some, Bool.or_eq_true, beq_iff_eq] at this
  rcases this with h' | h'
  · exact absurd h' hne
  · obtain ⟨e, he, h1, h2⟩ := waits_spec h'
    exact ⟨e, he, h2, h1⟩
end Go.Proofs.YtpomnihgimgpdaaDoor
