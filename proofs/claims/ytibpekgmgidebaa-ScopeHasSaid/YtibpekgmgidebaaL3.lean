/- What the program's walks ask of the world; strings.Contains; the walks of the program's Word, Name. -/
import Derived.Test.YtibpekgmgidebaaL2
import Derived.Test.YtibpekgmgidebaaShelf
import Derived.BigQuiet
set_option linter.unusedSimpArgs false
set_option linter.unusedVariables false
namespace Go.Proofs.Ytibpekgmgidebaa.Lx
open Go.RowKit
open Pl Fl

/-- What is asked of the library's variables. -/
structure EnvS (w : World) : Prop where
  ml : ∃ m : Int, w.cell? ⟨0, 0, none⟩ = some (.int .i64 m)
theorem cell_lt {w : World} {p : Addr} {v : Value} (h : w.cell? p = some v) : p.block < w.heap.size := by
  unfold World.cell? at h
  rcases Nat.lt_or_ge p.block w.heap.size with hlt | hge
  · exact hlt
  · rw [Array.getElem?_eq_none hge] at h; simp at h
theorem EnvS.below {w w' : World} {B : Nat} (E : EnvS w) (hB : w.heap.size ≤ B) (h : Below B w w') : EnvS w' := by
  obtain ⟨⟨m, hm⟩⟩ := E
  have b1 := cell_lt hm
  exact ⟨⟨m, (h.cell (by omega)).trans hm⟩⟩

/-! ### A word within the row of words -/
theorem index_infix (s sub : List UInt8) : (0 ≤ Lib.index s sub) ↔ ∃ i, i ≤ s.length ∧ Lib.occAt s sub i = true := by
  rcases Lib.index_spec s sub with ⟨h1, h2⟩ | ⟨i, h1, h2, h3, _⟩
  · rw [h1]
    constructor
    · intro h; omega
    · rintro ⟨i, hi, e⟩; rw [h2 i hi] at e; cases e
  · rw [h1]
    exact ⟨fun _ => ⟨i, h2, h3⟩, fun _ => by omega⟩
theorem contains_infix (s sub : List UInt8) : Lib.contains s sub = true ↔ sub <:+: s := by
  unfold Lib.contains
  rw [decide_eq_true_eq, index_infix]
  constructor
  · rintro ⟨i, hi, h⟩
    have := List.isPrefixOf_iff_prefix.1 h
    obtain ⟨r, hr⟩ := this
    exact ⟨s.take i, r, by rw [List.append_assoc, hr, List.take_append_drop]⟩
  · rintro ⟨l, r, h⟩
    refine ⟨l.length, by rw [← h]; simp, ?_⟩
    unfold Lib.occAt
    rw [List.isPrefixOf_iff_prefix, ← h, List.append_assoc, List.drop_left]
    exact ⟨r, rfl⟩
theorem indexByte_nonneg (s : List UInt8) (c : UInt8) : decide (0 ≤ Lib.indexByte s c) = s.contains c := by
  induction s with
  | nil => rfl
  | cons a s ih =>
    have hge := Lib.indexByte_ge s c
    unfold Lib.indexByte
    cases h : a == c
    · rw [if_neg (by simp)]
      have ha : ¬ c = a := fun e => by subst e; simp at h
      rw [List.contains_cons, show (c == a) = false by simpa using ha, Bool.false_or, ← ih]
      by_cases h2 : Lib.indexByte s c = -1
      · rw [if_pos (by simp [h2]), h2]
      · rw [if_neg (by simpa using h2)]
        rw [Bool.eq_iff_iff, decide_eq_true_eq, decide_eq_true_eq]
        omega
    · rw [if_pos rfl]
      have ha : c = a := by have := eq_of_beq h; exact this.symm
      subst ha
      simp
/-- A row of words, each behind a blank. -/
def rowW (l : List ByteArray) : List UInt8 := l.flatMap fun x => x.data.toList ++ [32]
theorem pre_word : ∀ (s w t : List UInt8), 32 ∉ s → 32 ∉ w → ((s ++ [32]) <+: (w ++ 32 :: t) ↔ s = w)
  | [], [], t, _, _ => by simp
  | [], b :: w, t, _, hw => by
    have : ¬ 32 = b := fun e => hw (by rw [e]; simp)
    simp [List.cons_prefix_cons, this]
  | a :: s, [], t, hs, _ => by
    have : ¬ a = 32 := fun e => hs (by rw [e]; simp)
    simp [List.cons_prefix_cons, this]
  | a :: s, b :: w, t, hs, hw => by
    have h1 : 32 ∉ s := fun h => hs (List.mem_cons_of_mem _ h)
    have h2 : 32 ∉ w := fun h => hw (List.mem_cons_of_mem _ h)
    rw [List.cons_append, List.cons_append, List.cons_prefix_cons, pre_word s w t h1 h2, List.cons.injEq]
theorem infix_skip (s : List UInt8) : ∀ (w t : List UInt8), 32 ∉ w → ((32 :: s) <:+: (w ++ t) ↔ (32 :: s) <:+: t)
  | [], t, _ => by simp
  | b :: w, t, hw => by
    have hb : ¬ 32 = b := fun e => hw (by rw [e]; simp)
    rw [List.cons_append, List.infix_cons_iff, infix_skip s w t fun h => hw (List.mem_cons_of_mem _ h), List.cons_prefix_cons]
    simp [hb]
theorem infix_row (s : List UInt8) (hs : 32 ∉ s) : ∀ (l : List ByteArray), (∀ x ∈ l, 32 ∉ x.data.toList) → ((32 :: (s ++ [32])) <:+: (32 :: rowW l) ↔ ∃ x ∈ l, x.data.toList = s)
  | [], _ => by
    rw [List.infix_cons_iff, List.cons_prefix_cons]
    simp [rowW]
  | x :: l, h => by
    have hx := h x (by simp)
    have e : rowW (x :: l) = x.data.toList ++ 32 :: rowW l := by simp [rowW]
    rw [List.infix_cons_iff, List.cons_prefix_cons, e, pre_word _ _ _ hs hx, infix_skip _ _ _ hx, infix_row s hs l fun y hy => h y (List.mem_cons_of_mem _ hy)]
    simp only [true_and, List.mem_cons, exists_eq_or_imp]
    exact or_congr ⟨fun h => h.symm, fun h => h.symm⟩ Iff.rfl
theorem words_no32 : ∀ x ∈ words, 32 ∉ x.data.toList := by decide
/-- The words' text. -/
def wordsT : List UInt8 := 32 :: rowW words
theorem wordsT_len : wordsT.length = 226 := by decide +kernel
theorem isW_row (s : ByteArray) (hs : 32 ∉ s.data.toList) : Lib.contains wordsT (32 :: (s.data.toList ++ [32])) = isW s := by
  rw [Bool.eq_iff_iff, contains_infix]
  unfold wordsT
  rw [infix_row _ hs words words_no32]
  unfold isW
  rw [List.any_eq_true]
  exact ⟨fun ⟨x, h1, h2⟩ => ⟨x, h1, by simp [h2]⟩, fun ⟨x, h1, h2⟩ => ⟨x, h1, by simpa using h2⟩⟩
theorem isW_nil {s : ByteArray} (h : s.size = 0) : isW s = false := by
  unfold isW
  rw [(empty_iff s).2 h]
  decide
theorem isW_32 {s : ByteArray} (h : 32 ∈ s.data.toList) : isW s = false := by
  unfold isW
  rw [List.any_eq_false]
  intro x hx e
  rw [beq_iff_eq] at e
  exact words_no32 x hx (e ▸ h)
set_option maxRecDepth 100000 in
set_option maxHeartbeats 3200000 in
theorem Word_any (s : ByteArray) (hs : s.size ≤ 9223372036854775800) {w : World} (E : EnvS w) : Calls Try.prog 36 #[.string s] w fun e w' => e = .returned (.bool (isW s)) ∧ w' = w := by
  obtain ⟨m, hm⟩ := E.ml
  have hc1 := Try.strings_Contains_one s 32 w
  rw [indexByte_nonneg] at hc1
  have HC1 := Lib.hid hc1
  have HC2 := Lib.hid (show ∀ x y : ByteArray, x.data.toList = wordsT → y.data.toList = 32 :: (s.data.toList ++ [32]) → Calls Try.prog 42 #[.string x, .string y] w fun e w' => e = .returned (.bool (Lib.contains wordsT (32 :: (s.data.toList ++ [32])))) ∧ w' = w by
    intro x y hx hy
    rw [← hx, ← hy]
    refine Try.strings_Contains x y m w ?_ hm
    have := congrArg List.length hx
    rw [wordsT_len] at this
    rw [show x.size = x.data.toList.length by simp, this]
    omega)
  have z1 : ¬ 9223372036854775807 < 1 + s.size := by omega
  have z2 : ¬ 9223372036854775807 < 1 + s.size + 1 := by omega
  clear hc1 hm
  have hl : s.toList = s.data.toList := ByteArray.toList_eq s
  by_cases h0 : s.size = 0
  · have HR := Lib.hid (isW_nil h0)
    have hb : (s.toList != []) = false := by rw [hl, (empty_iff s).2 h0]; rfl
    have hb2 : s.toList.isEmpty = true := by rw [hl, (empty_iff s).2 h0]; rfl
    have hb3 : s.toList = [] := by rw [hl, (empty_iff s).2 h0]
    clear hl
    go_enter Try.func36, Try.ntmps36
    go_wp2
    go_ret
    exact ⟨by rw [HR.out]; rfl, rfl⟩
  have hb2 : s.toList.isEmpty = false := by rw [hl, List.isEmpty_eq_false_iff, ne_eq, empty_iff]; exact h0
  have hb3 : ¬ s.toList = [] := by rw [hl, empty_iff]; exact h0
  clear hl
  by_cases h32 : s.data.toList.contains 32 = true
  · have HR := Lib.hid (isW_32 (s := s) (by simpa using h32))
    rw [h32] at HC1
    go_enter Try.func36, Try.ntmps36
    go_wp2_with fail
    ((with_reducible refine HC1.out.mono ?_); rintro e w1 ⟨rfl, hw⟩)
    have hw2 := hw.symm
    subst hw2
    go_wp2
    go_ret
    exact ⟨by rw [HR.out]; rfl, rfl⟩
  · have h33 : s.data.toList.contains 32 = false := by simpa using h32
    have HR := Lib.hid (isW_row s (by simpa using h32))
    rw [h33] at HC1
    go_enter Try.func36, Try.ntmps36
    go_wp2_with fail
    ((with_reducible refine HC1.out.mono ?_); rintro e w1 ⟨rfl, hw⟩)
    have hw2 := hw.symm
    subst hw2
    clear hw
    go_wp2_with fail
    ((with_reducible refine (HC2.out _ _ (by decide +kernel) (by simp)).mono ?_); rintro e w1 ⟨rfl, hw⟩)
    have hw2 := hw.symm
    subst hw2
    clear hw
    go_wp2
    go_ret
    exact ⟨by rw [← HR.out]; rfl, rfl⟩
/-- Is a text a name? -/
def isName (s : List UInt8) : Bool := !s.isEmpty && decide (s.length ≤ 32) && isL (s.head?.getD 0) && decide (runN isP s = s.length) && !isW (bt s)
theorem bt_data (s : ByteArray) : bt s.data.toList = s := by cases s; simp [bt]
set_option maxRecDepth 100000 in
set_option maxHeartbeats 3200000 in
theorem Name_any (s : ByteArray) (hs : s.size ≤ 9223372036854775800) {w : World} (E : EnvS w) : Calls Try.prog 28 #[.string s] w fun e w' => e = .returned (.bool (isName s.data.toList)) ∧ w' = w := by
  have hl : s.toList = s.data.toList := ByteArray.toList_eq s
  have hlen : s.data.toList.length = s.size := by simp
  have HN := Lib.hid (show isName s.data.toList = (!s.data.toList.isEmpty && decide (s.size ≤ 32) && isL (s.data.toList.head?.getD 0) && decide (runN isP s.data.toList = s.size) && !isW s) by unfold isName; rw [bt_data, hlen])
  by_cases h0 : s.size = 0
  · have HR := Lib.hid (show isName s.data.toList = false by rw [HN.out, (empty_iff s).2 h0]; rfl)
    have hb2 : s.toList.isEmpty = true := by rw [hl, (empty_iff s).2 h0]; rfl
    have hb3 : s.toList = [] := by rw [hl, (empty_iff s).2 h0]
    clear hl hlen
    go_enter Try.func28, Try.ntmps28
    go_wp2
    go_ret
    exact ⟨by rw [HR.out]; rfl, rfl⟩
  have hb2 : s.toList.isEmpty = false := by rw [hl, List.isEmpty_eq_false_iff, ne_eq, empty_iff]; exact h0
  have hb3 : ¬ s.toList = [] := by rw [hl, empty_iff]; exact h0
  have he : s.data.toList.isEmpty = false := by rw [← hl]; exact hb2
  have h00 : 0 < s.size := by omega
  have hh := head_at s h00
  have HN2 := Lib.hid (show isName s.data.toList = (decide (s.size ≤ 32) && isL s[0] && decide (runN isP s.data.toList = s.size) && !isW s) by rw [HN.out, he, hh]; rfl)
  have i0 : (0 : Int) < (s.size : Int) := by omega
  have HL := Lib.hid (letter_any s[0] w)
  have HRN := Lib.hid (run_part s hs w)
  have HW := Lib.hid (Word_any s hs E)
  have HLE := Lib.hid (runN_le isP s.data.toList)
  clear hl hlen HN he hh
  generalize isName s.data.toList = R at *
  by_cases h32 : s.size ≤ 32
  · have b32 : (s.size : Int) ≤ 32 := by omega
    have b33 : decide ((s.size : Int) ≤ 32) = true := by simpa using b32
    rw [show decide (s.size ≤ 32) = true by simpa using h32] at HN2
    go_enter Try.func28, Try.ntmps28
    go_wp2_with fail
    ((with_reducible refine HL.out.mono ?_); rintro e w1 ⟨rfl, rfl⟩)
    cases hc : isL s[0]
    · have HR := Lib.hid (show R = false by rw [HN2.out, hc]; rfl)
      go_wp2
      go_ret
      exact ⟨by rw [HR.out]; rfl, rfl⟩
    go_wp2_with fail
    ((with_reducible refine HRN.out.mono ?_); rintro e w1 ⟨rfl, rfl⟩)
    generalize hn : runN isP s.data.toList = n at *
    by_cases hns : n = s.size
    · have t1 : ((n : Int) == (s.size : Int)) = true := by simp [hns]
      have HN3 := Lib.hid (show R = !isW s by rw [HN2.out, hc, show decide (n = s.size) = true by simpa using hns]; simp)
      clear hns HN2
      go_wp2_with fail
      ((with_reducible refine HW.out.mono ?_); rintro e w1 ⟨rfl, hw⟩)
      have hw2 := hw.symm
      subst hw2
      clear hw
      cases hw : isW s
      all_goals
        have HR := Lib.hid (show R = _ by rw [HN3.out, hw])
        go_wp2
        go_ret
        exact ⟨by rw [HR.out]; rfl, rfl⟩
    · have t1 : ((n : Int) == (s.size : Int)) = false := by simp only [beq_eq_false_iff_ne, ne_eq]; omega
      have HR := Lib.hid (show R = false by rw [HN2.out, hc, show decide (n = s.size) = false by simpa using hns]; simp)
      clear hns HN2
      go_wp2
      go_ret
      exact ⟨by rw [HR.out]; rfl, rfl⟩
  · have b33 : decide ((s.size : Int) ≤ 32) = false := decide_eq_false (by omega)
    have HR := Lib.hid (show R = false by rw [HN2.out, show decide (s.size ≤ 32) = false from decide_eq_false h32]; rfl)
    go_enter Try.func28, Try.ntmps28
    go_wp2
    go_ret
    exact ⟨by rw [HR.out]; rfl, rfl⟩
end Go.Proofs.Ytibpekgmgidebaa.Lx
