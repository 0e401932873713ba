/- The walks of the reference's Words, Word, comment. -/
import Derived.Test.YtkiedbanobjmlaaDoorR1
set_option linter.unusedSimpArgs false
set_option linter.unusedVariables false
namespace Go.Proofs.YtkiedbanobjmlaaDoor.Lx
open Go.RowKit
open Pl

/-- The reserved words. -/
def words : List ByteArray := [⟨#[65, 78, 68]⟩, ⟨#[65, 82, 82, 65, 89]⟩, ⟨#[66, 69, 71, 73, 78]⟩, ⟨#[66, 89]⟩, ⟨#[67, 65, 83, 69]⟩, ⟨#[67, 79, 78, 83, 84]⟩, ⟨#[68, 69, 70, 73, 78, 73, 84, 73, 79, 78]⟩, ⟨#[68, 73, 86]⟩, ⟨#[68, 79]⟩, ⟨#[69, 76, 83, 69]⟩, ⟨#[69, 76, 83, 73, 70]⟩, ⟨#[69, 78, 68]⟩, ⟨#[69, 88, 73, 84]⟩, ⟨#[69, 88, 80, 79, 82, 84]⟩, ⟨#[70, 79, 82]⟩, ⟨#[70, 82, 79, 77]⟩, ⟨#[73, 70]⟩, ⟨#[73, 77, 80, 76, 69, 77, 69, 78, 84, 65, 84, 73, 79, 78]⟩, ⟨#[73, 77, 80, 79, 82, 84]⟩, ⟨#[73, 78]⟩, ⟨#[76, 79, 79, 80]⟩, ⟨#[77, 79, 68]⟩, ⟨#[77, 79, 68, 85, 76, 69]⟩, ⟨#[78, 79, 84]⟩, ⟨#[79, 70]⟩, ⟨#[79, 82]⟩, ⟨#[80, 79, 73, 78, 84, 69, 82]⟩, ⟨#[80, 82, 79, 67, 69, 68, 85, 82, 69]⟩, ⟨#[81, 85, 65, 76, 73, 70, 73, 69, 68]⟩, ⟨#[82, 69, 67, 79, 82, 68]⟩, ⟨#[82, 69, 80, 69, 65, 84]⟩, ⟨#[82, 69, 84, 85, 82, 78]⟩, ⟨#[83, 69, 84]⟩, ⟨#[84, 72, 69, 78]⟩, ⟨#[84, 79]⟩, ⟨#[84, 89, 80, 69]⟩, ⟨#[85, 78, 84, 73, 76]⟩, ⟨#[86, 65, 82]⟩, ⟨#[87, 72, 73, 76, 69]⟩, ⟨#[87, 73, 84, 72]⟩]
def wordsV : Array Value := #[.string ⟨#[65, 78, 68]⟩, .string ⟨#[65, 82, 82, 65, 89]⟩, .string ⟨#[66, 69, 71, 73, 78]⟩, .string ⟨#[66, 89]⟩, .string ⟨#[67, 65, 83, 69]⟩, .string ⟨#[67, 79, 78, 83, 84]⟩, .string ⟨#[68, 69, 70, 73, 78, 73, 84, 73, 79, 78]⟩, .string ⟨#[68, 73, 86]⟩, .string ⟨#[68, 79]⟩, .string ⟨#[69, 76, 83, 69]⟩, .string ⟨#[69, 76, 83, 73, 70]⟩, .string ⟨#[69, 78, 68]⟩, .string ⟨#[69, 88, 73, 84]⟩, .string ⟨#[69, 88, 80, 79, 82, 84]⟩, .string ⟨#[70, 79, 82]⟩, .string ⟨#[70, 82, 79, 77]⟩, .string ⟨#[73, 70]⟩, .string ⟨#[73, 77, 80, 76, 69, 77, 69, 78, 84, 65, 84, 73, 79, 78]⟩, .string ⟨#[73, 77, 80, 79, 82, 84]⟩, .string ⟨#[73, 78]⟩, .string ⟨#[76, 79, 79, 80]⟩, .string ⟨#[77, 79, 68]⟩, .string ⟨#[77, 79, 68, 85, 76, 69]⟩, .string ⟨#[78, 79, 84]⟩, .string ⟨#[79, 70]⟩, .string ⟨#[79, 82]⟩, .string ⟨#[80, 79, 73, 78, 84, 69, 82]⟩, .string ⟨#[80, 82, 79, 67, 69, 68, 85, 82, 69]⟩, .string ⟨#[81, 85, 65, 76, 73, 70, 73, 69, 68]⟩, .string ⟨#[82, 69, 67, 79, 82, 68]⟩, .string ⟨#[82, 69, 80, 69, 65, 84]⟩, .string ⟨#[82, 69, 84, 85, 82, 78]⟩, .string ⟨#[83, 69, 84]⟩, .string ⟨#[84, 72, 69, 78]⟩, .string ⟨#[84, 79]⟩, .string ⟨#[84, 89, 80, 69]⟩, .string ⟨#[85, 78, 84, 73, 76]⟩, .string ⟨#[86, 65, 82]⟩, .string ⟨#[87, 72, 73, 76, 69]⟩, .string ⟨#[87, 73, 84, 72]⟩]
theorem words_len : words.length = 40 := rfl
theorem wordsV_eq : wordsV = (words.map Value.string).toArray := rfl
theorem wordsV_at (i : Nat) (h : i < words.length) : wordsV[i]? = some (.string words[i]) := by
  rw [wordsV_eq]; simp [h]
def isW (s : ByteArray) : Bool := words.any (fun x => x.data.toList == s.data.toList)
theorem bytes_ext {a b : ByteArray} (h : a.data.toList = b.data.toList) : a = b := by
  cases a; cases b; simp_all
theorem ext_two (s : ByteArray) (k : Nat) (h : k + 1 < s.size) : (s.extract k (k + 2)).toList = [s[k], s[k + 1]] := by
  rw [ByteArray.toList_eq, ByteArray.data_extract, Array.toList_extract, List.extract_eq_take_drop, drop_cons s k (by omega), drop_cons s (k + 1) h]
  simp [show k + 2 - k = 2 from by omega]

set_option maxHeartbeats 1600000 in
theorem Words_any (w : World) : Calls Tryd.prog 32 #[] w fun e w' => e = .returned (.slice (some ⟨w.heap.size, 0, none⟩) 40 40) ∧ w' = w.alloc (.cells wordsV 9) := by
  go_enter Tryd.func32, Tryd.ntmps32
  go_wp2
  go_ret
  exact ⟨rfl, rfl⟩

set_option maxHeartbeats 1600000 in
theorem rWord_any (s : ByteArray) (w : World) : Calls Tryd.prog 14 #[.string s] w fun e w' => e = .returned (.bool (isW s)) ∧ w' = w.alloc (.cells wordsV 9) := by
  go_enter Tryd.func14, Tryd.ntmps14
  have HW := Lib.hid (Words_any w)
  go_wp2_with fail
  ((with_reducible refine HW.out.mono ?_); rintro e w1 ⟨rfl, rfl⟩)
  clear HW
  have hcell : ∀ i (h : i < words.length), (w.alloc (.cells wordsV 9)).cell? ⟨w.heap.size, i, none⟩ = some (.string words[i]) := fun i h => by
    rw [cell_of_row _ _ _ _ _ _ (heap_alloc_new w _)]; exact wordsV_at i h
  have HC := Lib.hid hcell
  have hlt0 : w.heap.size < (w.alloc (.cells wordsV 9)).heap.size := by simp
  clear hcell
  generalize hW1 : w.alloc (.cells wordsV 9) = W1 at *
  go_wp2
  go_loop [4] (fun i => ∃ k : Nat, k ≤ 40 ∧ i = .int .i64 k ∧ Hid (∀ x ∈ words.take k, x ≠ s)) (fun i => 40 - (intOf i).toNat)
  case atStart => exact ⟨0, by omega, rfl, Lib.hid (by simp)⟩
  case round =>
    obtain ⟨k, hk, rfl, HN⟩ := hrel
    by_cases hlt : k < 40
    · have hkl : k < words.length := hlt
      have hc := HC.out k hkl
      have HT := Lib.hid (show words.take (k + 1) = words.take k ++ [words[k]] from by simp)
      have HM := Lib.hid (show words[k] ∈ words from by simp)
      generalize words[k] = x at *
      have hi0 : (0 : Int) ≤ (k : Int) := by omega
      have hi1 : (k : Int) < 40 := by omega
      by_cases he : x = s
      · subst he
        have HR := Lib.hid (show isW x = true by unfold isW; exact List.any_eq_true.2 ⟨x, HM.out, by simp⟩)
        clear HM HT
        go_wp2
        all_goals
          go_ret
          exact ⟨ret_bool (by rw [HR.out]), rfl⟩
      · have HN2 := Lib.hid (show ∀ y ∈ words.take (k + 1), y ≠ s by
          intro y hy
          rw [HT.out, List.mem_append, List.mem_singleton] at hy
          rcases hy with hy | rfl
          · exact HN.out y hy
          · exact he)
        have hb : (x.toList == s.toList) = false := by
          rw [ByteArray.toList_eq, ByteArray.toList_eq]
          simp only [beq_eq_false_iff_ne, ne_eq]
          exact fun e => he (bytes_ext e)
        clear HM HT HN he
        go_wp2
        go_round
        case rel => exact ⟨k + 1, by omega, by go_num, HN2⟩
        case measure => simp [intOf]; omega
    · have hk4 : k = 40 := by omega
      subst hk4
      have HR := Lib.hid (show isW s = false by
        unfold isW
        rw [List.any_eq_false]
        intro x hx e
        exact HN.out x (by rw [show (40 : Nat) = words.length from rfl, List.take_length]; exact hx) (bytes_ext (by simpa using e)))
      clear HN
      go_wp2
      go_ret
      exact ⟨ret_bool (by rw [HR.out]), rfl⟩

/-- How many bytes a comment has (0: it does not end). -/
def cmt : Int → Nat → List UInt8 → Nat
  | d, i, a :: b :: r => if a = 40 ∧ b = 42 then cmt (d + 1) (i + 2) r else if a = 42 ∧ b = 41 then (if d - 1 = 0 then i + 2 else cmt (d - 1) (i + 2) r) else cmt d (i + 1) (b :: r)
  | _, _, _ => 0
set_option maxHeartbeats 1600000 in
theorem comment_any (s : ByteArray) (hs : s.size ≤ 9223372036854775800) (w : World) : Calls Tryd.prog 28 #[.string s] w fun e w' => e = .returned (.int .i64 (cmt 0 0 s.data.toList : Nat)) ∧ w = w' := by
  go_enter Tryd.func28, Tryd.ntmps28
  go_wp2
  go_loop [3, 4] (fun dv i => ∃ (d : Int) (k : Nat), k ≤ s.size ∧ i = .int .i64 k ∧ dv = .int .i64 d ∧ - (k : Int) ≤ d ∧ d ≤ k ∧ Hid (cmt 0 0 s.data.toList = cmt d k (s.data.toList.drop k))) (fun _ i => s.size - (intOf i).toNat)
  case atStart => exact ⟨0, 0, Nat.zero_le _, rfl, rfl, by omega, by omega, Lib.hid rfl⟩
  case round =>
    obtain ⟨d, k, hk, rfl, rfl, hd0, hd1, HB⟩ := hrel
    by_cases hlt : k + 1 < s.size
    · have HD := Lib.hid (drop_cons s k (by omega))
      have HD2 := Lib.hid (drop_cons s (k + 1) hlt)
      have hx0 : (0 : Int) ≤ (k : Int) := by omega
      have hx1 : (k : Int) ≤ (k : Int) + 2 := by omega
      have hx2 : (k : Int) + 2 ≤ (s.size : Int) := by omega
      have hE := ext_two s k hlt
      generalize s[k] = a at *
      generalize s[k + 1] = b at *
      have HC := Lib.hid (show cmt d k (s.data.toList.drop k) = if a = 40 ∧ b = 42 then cmt (d + 1) (k + 2) (s.data.toList.drop (k + 2)) else if a = 42 ∧ b = 41 then (if d - 1 = 0 then k + 2 else cmt (d - 1) (k + 2) (s.data.toList.drop (k + 2))) else cmt d (k + 1) (s.data.toList.drop (k + 1)) by rw [HD.out, HD2.out]; rfl)
      clear HD HD2
      by_cases h1 : a = 40 ∧ b = 42
      · have hb : ((s.extract k (k + 2)).toList == [40, 42]) = true := by rw [hE, h1.1, h1.2]; rfl
        have HN := Lib.hid (show cmt 0 0 s.data.toList = cmt (d + 1) (k + 2) (s.data.toList.drop (k + 2)) by rw [HB.out, HC.out, if_pos h1])
        clear hE HB HC h1
        go_wp2
        go_round
        case rel => exact ⟨d + 1, k + 2, by omega, by go_num, by go_num, by omega, by omega, HN⟩
        case measure => simp [intOf]; omega
      · have hb : ((s.extract k (k + 2)).toList == [40, 42]) = false := by
          rw [hE]; simp only [beq_eq_false_iff_ne, ne_eq, List.cons.injEq, and_true]; exact h1
        by_cases h2 : a = 42 ∧ b = 41
        · have hb2 : ((s.extract k (k + 2)).toList == [42, 41]) = true := by rw [hE, h2.1, h2.2]; rfl
          by_cases h3 : d - 1 = 0
          · have hb3 : (d - 1 == 0) = true := by simp [h3]
            have HN := Lib.hid (show cmt 0 0 s.data.toList = k + 2 by rw [HB.out, HC.out, if_neg h1, if_pos h2, if_pos h3])
            clear hE HB HC h1 h2 h3
            go_wp2
            go_ret
            exact ⟨ret_int (by rw [HN.out]; simp), rfl⟩
          · have hb3 : (d - 1 == 0) = false := by simpa using h3
            have HN := Lib.hid (show cmt 0 0 s.data.toList = cmt (d - 1) (k + 2) (s.data.toList.drop (k + 2)) by rw [HB.out, HC.out, if_neg h1, if_pos h2, if_neg h3])
            clear hE HB HC h1 h2 h3
            go_wp2
            go_round
            case rel => exact ⟨d - 1, k + 2, by omega, by go_num, by go_num, by omega, by omega, HN⟩
            case measure => simp [intOf]; omega
        · have hb2 : ((s.extract k (k + 2)).toList == [42, 41]) = false := by
            rw [hE]; simp only [beq_eq_false_iff_ne, ne_eq, List.cons.injEq, and_true]; exact h2
          have HN := Lib.hid (show cmt 0 0 s.data.toList = cmt d (k + 1) (s.data.toList.drop (k + 1)) by rw [HB.out, HC.out, if_neg h1, if_neg h2])
          clear hE HB HC h1 h2
          go_wp2
          go_round
          case rel => exact ⟨d, k + 1, by omega, by go_num, rfl, by omega, by omega, HN⟩
          case measure => simp [intOf]; omega
    · have HN := Lib.hid (show cmt 0 0 s.data.toList = 0 by
        rw [HB.out]
        have hl : (s.data.toList.drop k).length ≤ 1 := by rw [List.length_drop]; simp; omega
        rcases h : s.data.toList.drop k with _ | ⟨a, _ | ⟨b, r⟩⟩
        · rfl
        · rfl
        · rw [h] at hl; simp at hl)
      clear HB
      go_wp2
      go_ret
      exact ⟨ret_int (by rw [HN.out]; rfl), rfl⟩
end Go.Proofs.YtkiedbanobjmlaaDoor.Lx
