/- What the reference's One answers; its walk at a letter. -/
import Derived.Test.YtibpekgmgidebaaR5
import Derived.Outline
import Derived.BigQuiet
set_option linter.unusedSimpArgs false
set_option linter.unusedVariables false
namespace Go.Proofs.Ytibpekgmgidebaa.Lx
open Go.RowKit
open Pl Fl
attribute [local go_sem] run_store_complexL

/-- How many bytes at the front are so. -/
def runN (p : UInt8 → Bool) (l : List UInt8) : Nat := (l.takeWhile p).length
theorem runN_nil (p : UInt8 → Bool) : runN p [] = 0 := rfl
theorem runN_yes {p : UInt8 → Bool} {c : UInt8} (h : p c = true) (r : List UInt8) : runN p (c :: r) = runN p r + 1 := by simp [runN, List.takeWhile, h]
theorem runN_no {p : UInt8 → Bool} {c : UInt8} (h : p c = false) (r : List UInt8) : runN p (c :: r) = 0 := by simp [runN, List.takeWhile, h]
theorem runN_le (p : UInt8 → Bool) (l : List UInt8) : runN p l ≤ l.length := (List.takeWhile_sublist p).length_le
def isP (c : UInt8) : Bool := isL c || isD c
def isX (c : UInt8) : Bool := isD c || decide (65 ≤ c.toNat) && decide (c.toNat ≤ 70)
def bt (l : List UInt8) : ByteArray := ⟨l.toArray⟩
/-- The token that a text begins with, and how many bytes it has; or an error. -/
def oneN (s : List UInt8) : Except Nat (Tk × Nat) :=
  let c := s.head?.getD 0
  if isL c then
    let n := runN isP s
    if 32 < n then .error 5 else .ok (⟨if isW (bt (s.take n)) then 6 else 1, bt (s.take n), 0⟩, n)
  else if isD c then
    let m := runN isX s
    let n := if s[m]? = some 72 then m + 1 else m
    match numN (s.take n) with
    | none => .error 41
    | some t => .ok (t, n)
  else if c = 34 ∨ c = 39 then
    let n := 1 + runN (fun x => x != c && x != 10) s.tail
    if s[n]? = none ∨ s[n]? = some 10 then .error 42 else .ok (⟨4, bt ((s.take n).drop 1), 0⟩, n + 1)
  else
    let n := symN s
    if n = 0 then .error 40 else .ok (plainT (bt (s.take n)), n)
/-- What One hands back. -/
def oneEnd (r : Except Nat (Tk × Nat)) (e : Ending) : Prop := match r with
  | .ok (t, n) => e = .returned (.tuple #[t.val (0, 0) (0, 0), .int .i64 n, .int .i64 0])
  | .error k => e = .returned (.tuple #[noTk.val (0, 0) (0, 0), .int .i64 0, .int .i64 k])
theorem ext_take (s : ByteArray) (n : Nat) : s.extract 0 n = bt (s.data.toList.take n) := by
  apply bytes_ext
  rw [ByteArray.data_extract, Array.toList_extract, List.extract_eq_take_drop]
  simp [bt]

theorem tok_stored {w : World} {b : Nat} {T : TypeId} {a0 a1 a2 a3 a4 : Value} (h : Blk w b T #[a0, a1, a2, a3, a4]) (x0 x1 x2 x3 x4 : Value) :
    Blk (((((w.setCell ⟨b, 0, none⟩ x0).setCell ⟨b, 1, none⟩ x1).setCell ⟨b, 2, none⟩ x2).setCell ⟨b, 3, none⟩ x3).setCell ⟨b, 4, none⟩ x4) b T #[x0, x1, x2, x3, x4] := by
  have := ((((h.set_ 0 x0).set_ 1 x1).set_ 2 x2).set_ 3 x3).set_ 4 x4
  simpa using this
theorem below_stored {B : Nat} {W w : World} {b : Nat} (h : Below B W w) (hB : B ≤ b) (x0 x1 x2 x3 x4 : Value) :
    Below B W (((((w.setCell ⟨b, 0, none⟩ x0).setCell ⟨b, 1, none⟩ x1).setCell ⟨b, 2, none⟩ x2).setCell ⟨b, 3, none⟩ x3).setCell ⟨b, 4, none⟩ x4) :=
  ((((h.setCell hB _).setCell hB _).setCell hB _).setCell hB _).setCell hB _
/-- A token's block, all five cells and their marks, as facts. -/
structure TokAt (w : World) (b : Nat) (v0 v1 v2 v3 v4 : Value) : Prop where
  c0 : w.cell? ⟨b, 0, none⟩ = some v0
  c1 : w.cell? ⟨b, 1, none⟩ = some v1
  c2 : w.cell? ⟨b, 2, none⟩ = some v2
  c3 : w.cell? ⟨b, 3, none⟩ = some v3
  c4 : w.cell? ⟨b, 4, none⟩ = some v4
  f0 : w.frozen? ⟨b, 0, none⟩ = false
  f1 : w.frozen? ⟨b, 1, none⟩ = false
  f2 : w.frozen? ⟨b, 2, none⟩ = false
  f3 : w.frozen? ⟨b, 3, none⟩ = false
  f4 : w.frozen? ⟨b, 4, none⟩ = false
theorem Blk.tok {w : World} {b : Nat} {T : TypeId} {v0 v1 v2 v3 v4 : Value} (h : Blk w b T #[v0, v1, v2, v3, v4]) : TokAt w b v0 v1 v2 v3 v4 :=
  ⟨h.cell 0, h.cell 1, h.cell 2, h.cell 3, h.cell 4, h.frozen 0, h.frozen 1, h.frozen 2, h.frozen 3, h.frozen 4⟩
theorem head_at (s : ByteArray) (h : 0 < s.size) : s.data.toList.head? = some s[0] := by
  have := drop_cons s 0 h; rw [List.drop_zero] at this; rw [this]; rfl

end Go.Proofs.Ytibpekgmgidebaa.Lx
