/- Pieces of trees, as a law is handed them; what is grown of them, in plain words. -/
import Derived.Test.YtdpdoigmjnkmdaaDoorT9
import Derived.Test.YtdpdoigmjnkmdaaDoorP5
set_option linter.unusedSimpArgs false
set_option linter.unusedVariables false
namespace Go.Proofs.YtdpdoigmjnkmdaaDoor.Tr
open Go.RowKit
open Fl

structure Pc where
  kind : Nat
  line : Nat
  col : Nat
  name : ByteArray
  n : Int
  kids : Nat
def Pc.vals (p : Pc) : List Value := [.int .u8 p.kind, .int .u8 p.line, .int .u8 p.col, .string p.name, .int .i64 p.n, .int .u8 p.kids]
def valsP (l : List Pc) : List Value := l.flatMap Pc.vals
theorem valsP_cons (p : Pc) (l : List Pc) : valsP (p :: l) = p.vals ++ valsP l := rfl
theorem valsP_len : ∀ l : List Pc, (valsP l).length = l.length * 6
  | [] => rfl
  | p :: l => by
    rw [valsP_cons, List.length_append, valsP_len l]
    simp [Pc.vals]; omega
theorem valsP_drop : ∀ (l : List Pc) (k : Nat), (valsP l).drop (k * 6) = valsP (l.drop k)
  | l, 0 => by simp
  | [], k + 1 => by simp [valsP]
  | p :: l, k + 1 => by
    rw [valsP_cons, List.drop_succ_cons, ← valsP_drop l k, Nat.add_mul, Nat.one_mul, Nat.add_comm, ← List.drop_drop]
    rfl
/-- The address of a slice that is cut at k. -/
def cutA (A : Option Addr) (c k : Nat) : Option Addr := if c = k then A else A.map (·.add (k * 6))
theorem elem22 : Tryd.prog.underlying 22 = some (.slice (Tryd.prog.elem 22)) := by kernel_rfl
theorem Reads.cut {w : World} {B n c : Nat} {A : Option Addr} {xs : List Value} (h : Reads w B 6 A n xs) {k : Nat} (hk : k ≤ n) (hc : n ≤ c) : Reads w B 6 (cutA A c k) (n - k) (xs.drop (k * 6)) := by
  refine ⟨by rw [List.length_drop, h.1, Nat.sub_mul], fun hn => ?_⟩
  obtain ⟨ad, rfl, hb, hcell⟩ := h.2 (by omega)
  unfold cutA
  rw [if_neg (by omega)]
  refine ⟨ad.add (k * 6), rfl, by rw [block_of_add]; exact hb, fun j u hu => ?_⟩
  rw [add_of_add]
  exact hcell _ u (by rw [← hu, List.getElem?_drop])
theorem size51 (w : World) : (sizeOf 51).run Tryd.prog w = .ok 6 w := by kernel_rfl
theorem elem22' : Tryd.prog.elem 22 = 51 := by kernel_rfl
theorem run_cut (w : World) (A : Option Addr) (len c k : Nat) (hk : k ≤ len) : (Instr.slice 22 (.slice A len c) (some (.int .i64 (k : Int))) none none).run Tryd.prog w = .ok (.slice (cutA A c k) (len - k) (c - k)) w := by
  rw [run_slice_l (P := Tryd.prog) (w := w) 22 A len c elem22 .i64 (k : Int) (by omega) (by omega), elem22', size51]
  simp only [Result.andThen, Int.toNat_natCast]
  unfold sliced cutA
  by_cases h : c = k
  · subst h; cases A <;> simp
  · cases A <;> simp [h] <;> omega

/-- What is grown: at most one tree, and how many pieces were used. -/
def kidsG (g : List Pc → Fo × Nat) : Nat → List Pc → Nat → Fo → Fo × Nat
  | 0, _, at_, acc => (acc, at_)
  | n + 1, l, at_, acc => match g (l.drop at_) with
    | (.no, _) => (acc, at_)
    | (.node d k _, m) => kidsG g n l (at_ + m) (acc.snoc d k)
def ndP (p : Pc) : Nd := ⟨p.kind, Pl.ofN p.line p.col, p.name, p.n⟩
def grow : Nat → List Pc → Fo × Nat
  | 0, _ => (.no, 0)
  | _ + 1, [] => (.no, 0)
  | deep + 1, p :: l => (.node (ndP p) (kidsG (grow deep) (p.kids % 5) (p :: l) 1 .no).1 .no, (kidsG (grow deep) (p.kids % 5) (p :: l) 1 .no).2)
theorem kidsG_le (g : List Pc → Fo × Nat) (hg : ∀ l, (g l).2 ≤ l.length) : ∀ (n : Nat) (l : List Pc) (a : Nat) (acc : Fo), a ≤ l.length → (kidsG g n l a acc).2 ≤ l.length
  | 0, l, a, acc, h => h
  | n + 1, l, a, acc, h => by
    unfold kidsG
    have := hg (l.drop a)
    rw [List.length_drop] at this
    split
    · exact h
    · rename_i d k r m e
      rw [e] at this
      exact kidsG_le g hg n l _ _ (by omega)
theorem grow_le : ∀ (deep : Nat) (l : List Pc), (grow deep l).2 ≤ l.length
  | 0, l => Nat.zero_le _
  | deep + 1, [] => Nat.zero_le _
  | deep + 1, p :: l => kidsG_le (grow deep) (grow_le deep) _ (p :: l) 1 .no (by simp)
theorem grow_one : ∀ (deep : Nat) (l : List Pc), (grow deep l).1 = .no ∨ ∃ d k, (grow deep l).1 = .node d k .no
  | 0, l => .inl rfl
  | deep + 1, [] => .inl rfl
  | deep + 1, p :: l => .inr ⟨_, _, rfl⟩
end Go.Proofs.YtdpdoigmjnkmdaaDoor.Tr
