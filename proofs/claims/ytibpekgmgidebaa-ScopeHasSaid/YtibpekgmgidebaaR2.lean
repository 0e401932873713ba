/- The walks of the reference's Words, Word, comment. -/
import Derived.Test.YtibpekgmgidebaaR1
set_option linter.unusedSimpArgs false
set_option linter.unusedVariables false
namespace Go.Proofs.Ytibpekgmgidebaa.Lx
open Go.RowKit
open Pl

/-- The reserved words. -/
def words : List ByteArray := [⟨#[65, 78, 68]⟩, ⟨#[65, 82, 82, 65, 89]⟩, ⟨#[66, 69, 71, 73, 78]⟩, ⟨#[66, 89]⟩, ⟨#[67, 65, 83, 69]⟩, ⟨#[67, 79, 78, 83, 84]⟩, ⟨#[68, 69, 70, 73, 78, 73, 84, 73, 79, 78]⟩, ⟨#[68, 73, 86]⟩, ⟨#[68, 79]⟩, ⟨#[69, 76, 83, 69]⟩, ⟨#[69, 76, 83, 73, 70]⟩, ⟨#[69, 78, 68]⟩, ⟨#[69, 88, 73, 84]⟩, ⟨#[69, 88, 80, 79, 82, 84]⟩, ⟨#[70, 79, 82]⟩, ⟨#[70, 82, 79, 77]⟩, ⟨#[73, 70]⟩, ⟨#[73, 77, 80, 76, 69, 77, 69, 78, 84, 65, 84, 73, 79, 78]⟩, ⟨#[73, 77, 80, 79, 82, 84]⟩, ⟨#[73, 78]⟩, ⟨#[76, 79, 79, 80]⟩, ⟨#[77, 79, 68]⟩, ⟨#[77, 79, 68, 85, 76, 69]⟩, ⟨#[78, 79, 84]⟩, ⟨#[79, 70]⟩, ⟨#[79, 82]⟩, ⟨#[80, 79, 73, 78, 84, 69, 82]⟩, ⟨#[80, 82, 79, 67, 69, 68, 85, 82, 69]⟩, ⟨#[81, 85, 65, 76, 73, 70, 73, 69, 68]⟩, ⟨#[82, 69, 67, 79, 82, 68]⟩, ⟨#[82, 69, 80, 69, 65, 84]⟩, ⟨#[82, 69, 84, 85, 82, 78]⟩, ⟨#[83, 69, 84]⟩, ⟨#[84, 72, 69, 78]⟩, ⟨#[84, 79]⟩, ⟨#[84, 89, 80, 69]⟩, ⟨#[85, 78, 84, 73, 76]⟩, ⟨#[86, 65, 82]⟩, ⟨#[87, 72, 73, 76, 69]⟩, ⟨#[87, 73, 84, 72]⟩]
def wordsV : Array Value := #[.string ⟨#[65, 78, 68]⟩, .string ⟨#[65, 82, 82, 65, 89]⟩, .string ⟨#[66, 69, 71, 73, 78]⟩, .string ⟨#[66, 89]⟩, .string ⟨#[67, 65, 83, 69]⟩, .string ⟨#[67, 79, 78, 83, 84]⟩, .string ⟨#[68, 69, 70, 73, 78, 73, 84, 73, 79, 78]⟩, .string ⟨#[68, 73, 86]⟩, .string ⟨#[68, 79]⟩, .string ⟨#[69, 76, 83, 69]⟩, .string ⟨#[69, 76, 83, 73, 70]⟩, .string ⟨#[69, 78, 68]⟩, .string ⟨#[69, 88, 73, 84]⟩, .string ⟨#[69, 88, 80, 79, 82, 84]⟩, .string ⟨#[70, 79, 82]⟩, .string ⟨#[70, 82, 79, 77]⟩, .string ⟨#[73, 70]⟩, .string ⟨#[73, 77, 80, 76, 69, 77, 69, 78, 84, 65, 84, 73, 79, 78]⟩, .string ⟨#[73, 77, 80, 79, 82, 84]⟩, .string ⟨#[73, 78]⟩, .string ⟨#[76, 79, 79, 80]⟩, .string ⟨#[77, 79, 68]⟩, .string ⟨#[77, 79, 68, 85, 76, 69]⟩, .string ⟨#[78, 79, 84]⟩, .string ⟨#[79, 70]⟩, .string ⟨#[79, 82]⟩, .string ⟨#[80, 79, 73, 78, 84, 69, 82]⟩, .string ⟨#[80, 82, 79, 67, 69, 68, 85, 82, 69]⟩, .string ⟨#[81, 85, 65, 76, 73, 70, 73, 69, 68]⟩, .string ⟨#[82, 69, 67, 79, 82, 68]⟩, .string ⟨#[82, 69, 80, 69, 65, 84]⟩, .string ⟨#[82, 69, 84, 85, 82, 78]⟩, .string ⟨#[83, 69, 84]⟩, .string ⟨#[84, 72, 69, 78]⟩, .string ⟨#[84, 79]⟩, .string ⟨#[84, 89, 80, 69]⟩, .string ⟨#[85, 78, 84, 73, 76]⟩, .string ⟨#[86, 65, 82]⟩, .string ⟨#[87, 72, 73, 76, 69]⟩, .string ⟨#[87, 73, 84, 72]⟩]
theorem words_len : words.length = 40 := rfl
theorem wordsV_eq : wordsV = (words.map Value.string).toArray := rfl
theorem wordsV_at (i : Nat) (h : i < words.length) : wordsV[i]? = some (.string words[i]) := by
  rw [wordsV_eq]; simp [h]
def isW (s : ByteArray) : Bool := words.any (fun x => x.data.toList == s.data.toList)
theorem bytes_ext {a b : ByteArray} (h : a.data.toList = b.data.toList) : a = b := by
  cases a; cases b; simp_all
theorem ext_two (s : ByteArray) (k : Nat) (h : k + 1 < s.size) : (s.extract k (k + 2)).toList = [s[k], s[k + 1]] := by
  rw [ByteArray.toList_eq, ByteArray.data_extract, Array.toList_extract, List.extract_eq_take_drop, drop_cons s k (by omega), drop_cons s (k + 1) h]
  simp [show k + 2 - k = 2 from by omega]

/-- How many bytes a comment has (0: it does not end). -/
def cmt : Int → Nat → List UInt8 → Nat
  | d, i, a :: b :: r => if a = 40 ∧ b = 42 then cmt (d + 1) (i + 2) r else if a = 42 ∧ b = 41 then (if d - 1 = 0 then i + 2 else cmt (d - 1) (i + 2) r) else cmt d (i + 1) (b :: r)
  | _, _, _ => 0
end Go.Proofs.Ytibpekgmgidebaa.Lx
