/- The walks of the reference's letter, digit, value. -/
import Derived.Test.YtibpekgmgidebaaP5
set_option linter.unusedSimpArgs false
set_option linter.unusedVariables false
namespace Go.Proofs.Ytibpekgmgidebaa.Lx
open Go.RowKit
open Pl

def isL (c : UInt8) : Bool := decide (65 ≤ c.toNat) && decide (c.toNat ≤ 90) || decide (97 ≤ c.toNat) && decide (c.toNat ≤ 122)
def isD (c : UInt8) : Bool := decide (48 ≤ c.toNat) && decide (c.toNat ≤ 57)
theorem u8_lt (c : UInt8) : c.toNat < 256 := UInt8.toNat_lt c

/-- What a digit is worth, a capital letter too. -/
def dgt (c : UInt8) : Nat := if 65 ≤ c.toNat then c.toNat - 55 else c.toNat - 48
def valN (base most : Nat) : Nat → List UInt8 → Option Nat
  | n, [] => if n ≤ most then some n else none
  | n, c :: r => if base ≤ dgt c ∨ most < n then none else valN base most (n * base + dgt c) r
def valR (base most : Nat) (l : List UInt8) : Option Nat := if l = [] then none else valN base most 0 l
theorem empty_iff (s : ByteArray) : s.data.toList = [] ↔ s.size = 0 := by
  rw [← List.length_eq_zero_iff]; simp

end Go.Proofs.Ytibpekgmgidebaa.Lx
