/- The walk of the law BitsOps: sets are what a machine's words make of them; it returns true, whatever the input. -/
import Derived.Test.YthnboggjlppopaaW8
import Derived.Test.YthnboggjlppopaaD4
set_option linter.unusedSimpArgs false
set_option linter.unusedVariables false
namespace Go.Proofs.Ythnboggjlppopaa
open Go.RowKit

def bi (b : Bool) : Int := if b then 1 else 0
theorem bi_eq (b : Bool) : (bi b == 1) = b := by cases b <;> rfl

theorem row_words (X Y : Nat) (hX : X < 16) (hY : Y < 16) : WPlain.opP 31 X Y = (Plain.row X Y, 0) := by
  show WPlain.rowP X Y = _
  unfold WPlain.rowP
  rw [if_neg (by omega)]
  congr 1
  apply Plain.eq_of_bits
  · rcases WPlain.rowTo_lt X Y 16 with h | h
    · exact h
    · omega
  · exact Plain.row_lt _ _
  · intro k hk
    unfold WPlain.rowSet
    rw [WPlain.rowTo_bit, Plain.row, Plain.sumSet_bit, Plain.pRow]
    rw [Bool.eq_iff_iff]; simp; omega
theorem one_words (X : Nat) (hX : X < 16) : WPlain.opP 30 X 0 = (Plain.with_ 0 [(X : Int)], 0) := by
  show WPlain.rowP X X = _
  unfold WPlain.rowP
  rw [if_neg (by omega)]
  congr 1
  apply Plain.eq_of_bits
  · rcases WPlain.rowTo_lt X X 16 with h | h
    · exact h
    · omega
  · exact Plain.with_lt (by omega) _
  · intro k hk
    unfold WPlain.rowSet
    rw [WPlain.rowTo_bit, Plain.with_bit _ _ _ hk, Plain.one_in]
    rw [Bool.eq_iff_iff]; simp; omega
theorem in_words (X s : Nat) (hX : X < 16) : WPlain.opP 28 X s = (if Plain.has s (X : Int) then 1 else 0, 0) := by
  show WPlain.isP _ = _
  rw [Plain.has_nat s X hX]
  simp [WPlain.isP, hX]
theorem part_words (s t : Nat) : WPlain.opP 29 s t = (if Plain.part s t then 1 else 0, 0) := rfl
theorem mask_all {t : Nat} (ht : t < 65536) : Plain.mask (Plain.elems t 16) 0 = t := by
  have := Plain.with_all ht
  unfold Plain.with_ at this
  simpa using this
theorem or_words (s t : Nat) (ht : t < 65536) : WPlain.opP 24 s t = (Plain.with_ s (Plain.elems t 16), 0) := by
  show (s ||| t, 0) = _
  rw [Plain.with_, mask_all ht]
theorem less_words (s t : Nat) (ht : t < 65536) : WPlain.opP 25 s t = (Plain.without s (Plain.elems t 16), 0) := by
  show (s &&& (65535 - t), 0) = _
  rw [Plain.without, mask_all ht]
theorem and_words (s t : Nat) (hs : s < 65536) (ht : t < 65536) : WPlain.opP 26 s t = (Plain.without s (Plain.elems (Plain.without s (Plain.elems t 16)) 16), 0) := by
  show (s &&& t, 0) = _
  have h1 := Plain.without_lt hs (Plain.elems t 16)
  rw [Plain.without, mask_all h1]
  congr 1
  apply Plain.eq_of_bits
  · exact Nat.lt_of_le_of_lt Nat.and_le_left hs
  · exact Nat.lt_of_le_of_lt Nat.and_le_left hs
  · intro k hk
    rw [Nat.testBit_and, Nat.testBit_and, Plain.not_bit _ _ h1 hk, Plain.without, Nat.testBit_and, mask_all ht, Plain.not_bit _ _ ht hk]
    cases s.testBit k <;> cases t.testBit k <;> rfl

/-- word.Does at an op whose answer is known. -/
theorem does_to (op a b : Nat) (r : Nat) (w : World) (ho : op < 256) (ha : a < 65536) (hb : b < 65536) (h : WPlain.opP op a b = (r, 0)) :
    Calls Try.prog 22 #[.int .u8 op, .int .u16 a, .int .u16 b] w fun e w' => e = .returned (.tuple #[.int .u16 r, .int .u8 0]) ∧ Below w.heap.size w w' := by
  have := Wd.Does_any op a b w ho ha hb
  rw [h] at this
  exact this
theorem does_31 (a b r : Nat) (w : World) (ha : a < 65536) (hb : b < 65536) (h : WPlain.opP 31 a b = (r, 0)) :
    Calls Try.prog 22 #[.int .u8 31, .int .u16 a, .int .u16 b] w fun e w' => e = .returned (.tuple #[.int .u16 r, .int .u8 0]) ∧ Below w.heap.size w w' := does_to 31 a b r w (by omega) ha hb h
theorem does_30 (a r : Nat) (w : World) (ha : a < 65536) (h : WPlain.opP 30 a 0 = (r, 0)) :
    Calls Try.prog 22 #[.int .u8 30, .int .u16 a, .int .u16 0] w fun e w' => e = .returned (.tuple #[.int .u16 r, .int .u8 0]) ∧ Below w.heap.size w w' := does_to 30 a 0 r w (by omega) ha (by omega) h
theorem does_28 (a b : Nat) (x : Bool) (w : World) (ha : a < 65536) (hb : b < 65536) (h : WPlain.opP 28 a b = (if x then 1 else 0, 0)) :
    Calls Try.prog 22 #[.int .u8 28, .int .u16 a, .int .u16 b] w fun e w' => e = .returned (.tuple #[.int .u16 (bi x), .int .u8 0]) ∧ Below w.heap.size w w' := by
  have := does_to 28 a b _ w (by omega) ha hb h
  cases x <;> exact this
theorem does_29 (a b : Nat) (x : Bool) (w : World) (ha : a < 65536) (hb : b < 65536) (h : WPlain.opP 29 a b = (if x then 1 else 0, 0)) :
    Calls Try.prog 22 #[.int .u8 29, .int .u16 a, .int .u16 b] w fun e w' => e = .returned (.tuple #[.int .u16 (bi x), .int .u8 0]) ∧ Below w.heap.size w w' := by
  have := does_to 29 a b _ w (by omega) ha hb h
  cases x <;> exact this
theorem does_24 (a b r : Nat) (w : World) (ha : a < 65536) (hb : b < 65536) (h : WPlain.opP 24 a b = (r, 0)) :
    Calls Try.prog 22 #[.int .u8 24, .int .u16 a, .int .u16 b] w fun e w' => e = .returned (.tuple #[.int .u16 r, .int .u8 0]) ∧ Below w.heap.size w w' := does_to 24 a b r w (by omega) ha hb h
theorem does_26 (a b r : Nat) (w : World) (ha : a < 65536) (hb : b < 65536) (h : WPlain.opP 26 a b = (r, 0)) :
    Calls Try.prog 22 #[.int .u8 26, .int .u16 a, .int .u16 b] w fun e w' => e = .returned (.tuple #[.int .u16 r, .int .u8 0]) ∧ Below w.heap.size w w' := does_to 26 a b r w (by omega) ha hb h
theorem does_25 (a b r : Nat) (w : World) (ha : a < 65536) (hb : b < 65536) (h : WPlain.opP 25 a b = (r, 0)) :
    Calls Try.prog 22 #[.int .u8 25, .int .u16 a, .int .u16 b] w fun e w' => e = .returned (.tuple #[.int .u16 r, .int .u8 0]) ∧ Below w.heap.size w w' := does_to 25 a b r w (by omega) ha hb h

theorem nat_u8 {a : Int} (h : (Lit.int .u8 a).wf = true) : ∃ n : Nat, a = n ∧ n < 256 := by
  have := bounds_u8 h
  exact ⟨a.toNat, by omega, by omega⟩

theorem with_zero1 (X : Nat) (w : World) (b B : Nat) (h : Ints w B (some ⟨b, 0, none⟩) 1 [(X : Int)]) :
    Calls Try.prog 10 #[.int .u16 0, .slice (some ⟨b, 0, none⟩) 1 1] w fun e w' => e = .returned (.int .u16 (Plain.with_ 0 [(X : Int)] : Nat)) ∧ w = w' :=
  with_any 0 (some ⟨b, 0, none⟩) 1 1 [(X : Int)] w B (by omega) h (by omega)

set_option maxRecDepth 100000 in
set_option maxHeartbeats 4000000 in
theorem ops_walk (a0 : Int) (a1 : Int) (a2 : Int) (a3 : Int) (w0 : (Lit.int .u16 a0).wf = true) (w1 : (Lit.int .u16 a1).wf = true) (w2 : (Lit.int .u8 a2).wf = true) (w3 : (Lit.int .u8 a3).wf = true) (w : World) :
    Calls Try.prog 6 #[.int .u16 a0, .int .u16 a1, .int .u8 a2, .int .u8 a3] w fun e w' => e = .returned (.bool true) ∧ Below w.heap.size w w' := by
  obtain ⟨s, rfl, hs⟩ := nat_u16 w0
  obtain ⟨t, rfl, ht⟩ := nat_u16 w1
  obtain ⟨i, rfl, hi⟩ := nat_u8 w2
  obtain ⟨k, rfl, hk⟩ := nat_u8 w3
  clear w0 w1 w2 w3
  have hX : i % 16 < 16 := by omega
  have hY : k % 16 < 16 := by omega
  have eX : (i : Int) % 16 = ((i % 16 : Nat) : Int) := rfl
  have eY : (k : Int) % 16 = ((k % 16 : Nat) : Int) := rfl
  generalize i % 16 = X at *
  generalize k % 16 = Y at *
  have bX : (X : Int) < 16 := by omega
  have bY : (Y : Int) < 16 := by omega
  have q1 := Lib.hid (row_words X Y hX hY)
  have q2 := Lib.hid (one_words X hX)
  have q3 := Lib.hid (in_words X s hX)
  have q4 := Lib.hid (part_words s t)
  have q5 := Lib.hid (or_words s t ht)
  have q6 := Lib.hid (and_words s t hs ht)
  have q7 := Lib.hid (less_words s t ht)
  have hL := Plain.without_lt hs (Plain.elems t 16)
  have lt1 := Plain.elems_length_le t 16
  have lt2 := Plain.elems_length_le (Plain.without s (Plain.elems t 16)) 16
  generalize hE1 : Plain.elems (Plain.without s (Plain.elems t 16)) 16 = es2 at *
  generalize hLl : Plain.without s (Plain.elems t 16) = L at *
  generalize hE2 : Plain.elems t 16 = es at *
  generalize hh : Plain.has s (X : Int) = h at *
  generalize hp : Plain.part s t = p at *
  have HE1 := Lib.hid hE1
  have HL := Lib.hid hLl
  have HE2 := Lib.hid hE2
  have HH := Lib.hid hh
  have HP := Lib.hid hp
  have bh := bi_eq h
  have bp := bi_eq p
  clear hE1 hLl hE2 hh hp
  have l1 : es.length ≤ 9223372036854775807 := by omega
  have l2 : es2.length ≤ 9223372036854775807 := by omega
  go_enter Try.func6, Try.ntmps6
  go_wp2_with fail
  ((with_reducible refine (does_31 X Y _ _ (by omega) (by omega) q1.out).mono ?_); rintro e x1 ⟨rfl, c1⟩)
  go_wp2_with fail
  ((with_reducible refine (does_30 X _ _ (by omega) q2.out).mono ?_); rintro e x2 ⟨rfl, c2⟩)
  replace c2 := c1.trans (c2.mono c1.size)
  clear c1
  go_wp2_with fail
  ((with_reducible refine (does_28 X s h _ (by omega) hs q3.out).mono ?_); rintro e x3 ⟨rfl, c3⟩)
  replace c3 := c2.trans (c3.mono c2.size)
  clear c2
  go_wp2_with fail
  ((with_reducible refine (does_29 s t p _ hs ht q4.out).mono ?_); rintro e x4 ⟨rfl, c4⟩)
  replace c4 := c3.trans (c4.mono c3.size)
  clear c3
  go_wp2_with fail
  ((with_reducible refine (does_24 s t _ _ hs ht q5.out).mono ?_); rintro e x5 ⟨rfl, c5⟩)
  replace c5 := c4.trans (c5.mono c4.size)
  clear c4
  go_wp2_with fail
  ((with_reducible refine (does_26 s t _ _ hs ht q6.out).mono ?_); rintro e x6 ⟨rfl, c6⟩)
  replace c6 := c5.trans (c6.mono c5.size)
  clear c5
  go_wp2_with fail
  ((with_reducible refine (does_25 s t _ _ hs ht q7.out).mono ?_); rintro e x7 ⟨rfl, c7⟩)
  replace c7 := c6.trans (c7.mono c6.size)
  clear c6
  go_wp2_with fail
  ((with_reducible refine (row_any (X : Int) (Y : Int) _).mono ?_); rintro e x8 ⟨rfl, c8⟩)
  replace c8 := c7.trans (c8.mono c7.size)
  clear c7
  go_wp2_with fail
  ((with_reducible refine (with_zero1 X _ _ _ (ints_at _ _ _ ?hb1)).mono ?_); (case hb1 => rfl); rintro e x9 ⟨rfl, rfl⟩)
  go_wp2_with fail
  ((with_reducible refine (has_to s (X : Int) h _ hs HH.out).mono ?_); rintro e x9 ⟨rfl, rfl⟩)
  go_wp2_with fail
  ((with_reducible refine (part_any s t _ hs ht).mono ?_); rintro e x9 ⟨rfl, rfl⟩)
  rw [HP.out]
  have c9 := c8.alloc c8.size (.cells #[.int .i64 (X : Int)] 3)
  go_wp2_with fail
  ((with_reducible refine (all_any t _ ht).mono ?_); rintro e y1 ⟨v, rfl, hown, d1⟩)
  rw [HE2.out] at hown
  obtain ⟨A1, n1, rfl, r1⟩ := ints_of_own hown
  clear hown
  replace d1 := c9.trans (d1.mono c9.size)
  go_wp2_with fail
  ((with_reducible refine (with_any s _ _ _ es _ _ hs r1 l1).mono ?_); rintro e y2 ⟨rfl, rfl⟩)
  go_wp2_with fail
  ((with_reducible refine (all_any t _ ht).mono ?_); rintro e y2 ⟨v, rfl, hown, d2⟩)
  rw [HE2.out] at hown
  obtain ⟨A2, n2, rfl, r2⟩ := ints_of_own hown
  clear hown
  replace d2 := d1.trans (d2.mono d1.size)
  go_wp2_with fail
  ((with_reducible refine (without_any s _ _ _ es _ _ hs r2 l1).mono ?_); rintro e y3 ⟨rfl, rfl⟩)
  rw [HL.out]
  go_wp2_with fail
  ((with_reducible refine (all_any L _ hL).mono ?_); rintro e y3 ⟨v, rfl, hown, d3⟩)
  rw [HE1.out] at hown
  obtain ⟨A3, n3, rfl, r3⟩ := ints_of_own hown
  clear hown
  replace d3 := d2.trans (d3.mono d2.size)
  go_wp2_with fail
  ((with_reducible refine (without_any s _ _ _ es2 _ _ hs r3 l2).mono ?_); rintro e y4 ⟨rfl, rfl⟩)
  go_wp2_with fail
  ((with_reducible refine (alive_any _).mono ?_); rintro e y4 ⟨rfl, d4⟩)
  go_wp2
  go_ret
  exact ⟨rfl, d3.trans (d4.mono d3.size)⟩

end Go.Proofs.Ythnboggjlppopaa
