/- The facts on word.does's two regions in this translation, each by the kernel. -/
import Derived.Test.YtdodbbedlgglcaaDoorRows
import Derived.Test.YtdodbbedlgglcaaDoorFill
set_option linter.unusedSimpArgs false
set_option linter.unusedVariables false
namespace Go.Proofs.YtdodbbedlgglcaaDoor.Wd
open Go.RowKit

/-- The n-th region of a code. -/
def regionOf (n : Nat) : Code → Option (Array Oper)
  | .region id ops _ => if id = n then some ops else none
  | .seq a b => match regionOf n a with
    | some o => some o
    | none => regionOf n b
  | .block _ c => regionOf n c
  | .scope c => regionOf n c
  | .loop c => regionOf n c
  | .cond _ a b => match regionOf n a with
    | some o => some o
    | none => regionOf n b
  | _ => none

noncomputable def numOps : Array Oper := ((Tryd.f23.body).bind (regionOf 1)).getD #[]
noncomputable def wordOps : Array Oper := ((Tryd.f23.body).bind (regionOf 2)).getD #[]
noncomputable def doesOps : Array Oper := ((Tryd.f23.body).bind (regionOf 3)).getD #[]

def doesF (k : Nat) : FuncId := [30, 32, 33, 34, 37, 39, 40, 41, 43, 44, 45, 47, 49, 51, 52, 54, 55, 56, 57, 59, 60, 61, 62, 63, 65, 66, 67, 68, 69, 70, 72].getD k 0
def doesC (k : Nat) : List Tmp := [[5, 6], [5, 6], [5, 6], [6, 5], [6, 5], [5], [5], [7, 8], [7, 8], [7, 8], [8, 7], [8, 7], [2, 3], [2, 3], [5, 6], [5, 6], [5, 6], [5, 6], [2, 3], [2, 3], [2, 3], [2, 3], [2], [2, 3], [2, 3], [2, 3], [2, 3], [2, 3], [2, 3], [2], [2, 3]].getD k []

/-- What a tool sees of an operation: what it is, where it writes, whether it waits for the j-th. -/
def waits (o : Oper) (j : Nat) : Bool := o.after.any fun e => e.on == j && Region.binds .any e
theorem waits_spec {o : Oper} {j : Nat} (h : waits o j = true) : ∃ e ∈ o.after, e.on = j ∧ Region.binds .any e = true := by
  unfold waits at h
  rw [Array.any_eq_true'] at h
  obtain ⟨e, he, h⟩ := h
  rw [Bool.and_eq_true, beq_iff_eq] at h
  exact ⟨e, he, h.1, h.2⟩

theorem seen {ops : Array Oper} {i : Nat} {p : Op} {d : Option Tmp} (h : (ops[i]?).map (fun o => (o.op, o.dst)) = some (p, d)) : ∃ o, ops[i]? = some o ∧ o.op = p ∧ o.dst = d := by
  rw [Option.map_eq_some_iff] at h
  obtain ⟨o, ho, h⟩ := h
  injection h with h1 h2
  exact ⟨o, ho, h1, h2⟩
theorem seen1 {ops : Array Oper} {i j : Nat} {p : Op} {d : Option Tmp} (h : (ops[i]?).map (fun o => (o.op, o.dst, waits o j)) = some (p, d, true)) :
    ∃ o, ops[i]? = some o ∧ o.op = p ∧ o.dst = d ∧ ∃ e ∈ o.after, e.on = j ∧ Region.binds .any e = true := by
  rw [Option.map_eq_some_iff] at h
  obtain ⟨o, ho, h⟩ := h
  injection h with h1 h2
  injection h2 with h2 h3
  exact ⟨o, ho, h1, h2, waits_spec h3⟩
theorem seen2 {ops : Array Oper} {i j l : Nat} {p : Op} {d : Option Tmp} (h : (ops[i]?).map (fun o => (o.op, o.dst, waits o j, waits o l)) = some (p, d, true, true)) :
    ∃ o, ops[i]? = some o ∧ o.op = p ∧ o.dst = d ∧ (∃ e ∈ o.after, e.on = j ∧ Region.binds .any e = true) ∧ ∃ e ∈ o.after, e.on = l ∧ Region.binds .any e = true := by
  rw [Option.map_eq_some_iff] at h
  obtain ⟨o, ho, h⟩ := h
  injection h with h1 h2
  injection h2 with h2 h3
  injection h3 with h3 h4
  exact ⟨o, ho, h1, h2, waits_spec h3, waits_spec h4⟩

/-- Checks of a whole region, as Booleans. -/
def acyclicB (ops : Array Oper) : Bool := (List.range ops.size).all fun i => ((ops[i]?).map fun o => o.after.all fun e => !Region.binds .any e || decide (e.on < i)).getD true
theorem acyclic_of {ops : Array Oper} (h : acyclicB ops = true) : Acyclic .any ops := by
  intro i o ho e he hb
  have hi : i < ops.size := (Array.getElem?_eq_some_iff.1 ho).1
  unfold acyclicB at h
  rw [List.all_eq_true] at h
  have := h i (by simpa using hi)
  rw [ho] at this
  simp only [Option.map_some, Option.getD_some, Array.all_eq_true_iff_forall_mem] at this
  have := this e he
  rw [hb] at this
  simpa using this
def dstAt (ops : Array Oper) (i : Nat) : Option Tmp := (ops[i]?).bind (·.dst)
def oneB (ops : Array Oper) : Bool := (List.range ops.size).all fun i => (List.range ops.size).all fun j => i == j || (dstAt ops i).isNone || dstAt ops i != dstAt ops j
theorem one_of {ops : Array Oper} (h : oneB ops = true) : OneDst ops := by
  intro i j oi oj d hi hj di dj
  have hi' : i < ops.size := (Array.getElem?_eq_some_iff.1 hi).1
  have hj' : j < ops.size := (Array.getElem?_eq_some_iff.1 hj).1
  unfold oneB at h
  rw [List.all_eq_true] at h
  have := h i (by simpa using hi')
  rw [List.all_eq_true] at this
  have := this j (by simpa using hj')
  simp [dstAt, hi, hj, di, dj] at this
  exact this
def dstInB (ops : Array Oper) (n : Nat) : Bool := (List.range ops.size).all fun i => ((dstAt ops i).map fun d => decide (d < n)).getD true
theorem dstIn_of {ops : Array Oper} {n : Nat} (h : dstInB ops n = true) : DstIn ops n := by
  intro i o d hi hd
  have hi' : i < ops.size := (Array.getElem?_eq_some_iff.1 hi).1
  unfold dstInB at h
  rw [List.all_eq_true] at h
  have := h i (by simpa using hi')
  simpa [dstAt, hi, hd] using this
def keepB (ops : Array Oper) (d : Tmp) : Bool := (List.range ops.size).all fun i => dstAt ops i != some d
theorem keep_of {ops : Array Oper} {d : Tmp} (h : keepB ops d = true) : ∀ (i : Nat) (o : Oper), ops[i]? = some o → o.dst ≠ some d := by
  intro i o hi hd
  have hi' : i < ops.size := (Array.getElem?_eq_some_iff.1 hi).1
  unfold keepB at h
  rw [List.all_eq_true] at h
  have := h i (by simpa using hi')
  simp [dstAt, hi, hd] at this
def plainB (ops : Array Oper) : Bool := (List.range ops.size).all fun i => ((ops[i]?).map fun o => o.guard.isNone).getD true
theorem plain_of {ops : Array Oper} (h : plainB ops = true) : ∀ (i : Nat) (o : Oper), ops[i]? = some o → o.guard = none := by
  intro i o hi
  have hi' : i < ops.size := (Array.getElem?_eq_some_iff.1 hi).1
  unfold plainB at h
  rw [List.all_eq_true] at h
  have := h i (by simpa using hi')
  rw [hi] at this
  simpa using this

def seenF (ops : Array Oper) (k : Nat) : Option (Op × Option Tmp) := (ops[1 + 2 * k]?).map fun o => (o.op, o.dst)
def seenI (ops : Array Oper) (k : Nat) : Option (Op × Option Tmp) := (ops[2 + 2 * k]?).map fun o => (o.op, o.dst)

theorem num_ops : NumOps numOps (.call { callee := .value (.func 15), args := #[.tmp 9], argTypes := #[22] }) (.call { callee := .value (.func 15), args := #[.tmp 11], argTypes := #[22] }) 9 10 11 12 5 6 3 22 where
  size := by kernel_rfl
  acyc := acyclic_of (by kernel_rfl)
  one := one_of (by kernel_rfl)
  dstIn := dstIn_of (by kernel_rfl)
  keep := fun d hd => by
    simp only [List.mem_cons, List.not_mem_nil, or_false] at hd
    rcases hd with rfl | rfl
    · exact keep_of (by kernel_rfl)
    · exact keep_of (by kernel_rfl)
  plain := plain_of (by kernel_rfl)
  o0 := seen (by kernel_rfl)
  o1 := seen1 (by kernel_rfl)
  o2 := seen (by kernel_rfl)
  o3 := seen1 (by kernel_rfl)
  o4 := seen (by kernel_rfl)
  o5 := seen (by kernel_rfl)
  o6 := seen2 (by kernel_rfl)
  o7 := seen2 (by kernel_rfl)

theorem word_ops : NumOps wordOps (.convert 22 3 (.tmp 13)) (.convert 22 3 (.tmp 15)) 13 14 15 16 7 8 3 22 where
  size := by kernel_rfl
  acyc := acyclic_of (by kernel_rfl)
  one := one_of (by kernel_rfl)
  dstIn := dstIn_of (by kernel_rfl)
  keep := fun d hd => by
    simp only [List.mem_cons, List.not_mem_nil, or_false] at hd
    rcases hd with rfl | rfl
    · exact keep_of (by kernel_rfl)
    · exact keep_of (by kernel_rfl)
  plain := plain_of (by kernel_rfl)
  o0 := seen (by kernel_rfl)
  o1 := seen1 (by kernel_rfl)
  o2 := seen (by kernel_rfl)
  o3 := seen1 (by kernel_rfl)
  o4 := seen (by kernel_rfl)
  o5 := seen (by kernel_rfl)
  o6 := seen2 (by kernel_rfl)
  o7 := seen2 (by kernel_rfl)

theorem does_F : (List.range 31).map (seenF doesOps) = (List.range 31).map fun k => some (.makeFunc (.func (doesF k)) #[] ((doesC k).map Operand.tmp).toArray, some (18 + k)) := by kernel_rfl
theorem does_I : (List.range 31).map (seenI doesOps) = (List.range 31).map fun k => some (.insert 40 (.tmp 17) (.const (.int .u8 ((k : Int) + 1))) (.tmp (18 + k)), none) := by kernel_rfl
theorem does_C : (List.range 31).all (fun k => (doesC k).all fun d => keepB doesOps d) = true := by kernel_rfl

theorem does_ops : FillOps doesOps 31 doesF doesC 17 18 49 4 50 40 where
  size := by kernel_rfl
  one := one_of (by kernel_rfl)
  dstIn := dstIn_of (by kernel_rfl)
  plain := plain_of (by kernel_rfl)
  keep := fun k hk d hd => by
    have hc := does_C
    rw [List.all_eq_true] at hc
    have := hc k (by simpa using hk)
    rw [List.all_eq_true] at this
    exact keep_of (this d hd)
  oM := seen (by kernel_rfl)
  oF := fun k hk => seen (List.map_inj_left.1 does_F k (by simpa using hk))
  oI := fun k hk => seen (List.map_inj_left.1 does_I k (by simpa using hk))
  oX := seen (by kernel_rfl)
  oR := seen (by kernel_rfl)

theorem does_types : DoesTypes Tryd.prog 3 22 40 where
  load := fun w A v h => by simp [go_sem, h]
  conv := fun w n h0 h1 => by
    simp [go_sem]
    rw [IntKind.wrap_i64]; omega
  alloc := fun w => by simp [go_sem]
  store := fun w A n old h hf => by simp [go_sem, stored, h, hf]
  map := ⟨_, _, Tryd.underlying40, Tryd.underlying5⟩

end Go.Proofs.YtdodbbedlgglcaaDoor.Wd
