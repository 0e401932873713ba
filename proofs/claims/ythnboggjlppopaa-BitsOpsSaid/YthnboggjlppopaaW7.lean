/- The walks of the laws BitsTells, BitsRows, BitsAll: each returns true, whatever the input. -/
import Derived.Test.YthnboggjlppopaaW6
import Derived.OpenShut
namespace Go.Proofs.Ythnboggjlppopaa
open Go.RowKit

theorem nat_u16 {a : Int} (h : (Lit.int .u16 a).wf = true) : ∃ n : Nat, a = n ∧ n < 65536 := by
  have := bounds_u16 h
  exact ⟨a.toNat, by omega, by omega⟩

theorem IsRow.ints {w : World} {a : Option Addr} {len cap : Nat} {zs : List Int} (h : IsRow .i64 w a len cap zs) : Ints w w.heap.size a len (zs.take len) := by
  rcases h with ⟨rfl, rfl, rfl, rfl⟩ | ⟨x, rfl, hl, _, hz, hc, _⟩
  · exact ⟨by simp, fun h => absurd h (by omega)⟩
  · refine ⟨by simp; omega, fun hn => ⟨x, rfl, ?_, ?_⟩⟩
    · have := hc 0 (by omega)
      have := World.block_lt_of_cell? _ _ this
      rwa [block_of_add] at this
    · intro j u hu
      simp only [List.getElem?_map, List.getElem?_take] at hu
      split at hu
      · have := hc j (by omega)
        simp only [List.getD, Option.map_eq_some_iff] at this hu
        obtain ⟨y, hy, rfl⟩ := hu
        rw [hy] at this
        exact this
      · simp at hu

theorem IsRow.le {k : IntKind} {w : World} {a : Option Addr} {len cap : Nat} {zs : List Int} (h : IsRow k w a len cap zs) : len ≤ 9223372036854775807 := by
  rcases h with ⟨rfl, rfl, rfl, rfl⟩ | ⟨x, rfl, hl, hm, _⟩
  · omega
  · unfold maxLen at hm; omega

theorem row_has (a0 a1 a2 : Int) : Plain.has (Plain.row a0 a1) a2 = (decide (0 ≤ a2) && decide (a2 < 16) && decide (a0 ≤ a2) && decide (a2 ≤ a1)) := by
  rw [Bool.eq_iff_iff]
  by_cases h : 0 ≤ a2 ∧ a2 < 16
  · obtain ⟨k, rfl⟩ := Int.eq_ofNat_of_zero_le h.1
    have hk : k < 16 := by omega
    rw [Plain.has_nat _ _ hk, Plain.row, Plain.sumSet_bit, Plain.pRow]
    simp [hk]; omega
  · have : Plain.may a2 = false := decide_eq_false h
    simp [Plain.has, this]; omega

theorem row_cases (a0 a1 a2 : Int) :
    (0 ≤ a2 ∧ a2 < 16 ∧ a0 ≤ a2 ∧ a2 ≤ a1 ∧ Plain.has (Plain.row a0 a1) a2 = true) ∨ (0 ≤ a2 ∧ a2 < 16 ∧ a0 ≤ a2 ∧ ¬ a2 ≤ a1 ∧ Plain.has (Plain.row a0 a1) a2 = false) ∨
    (0 ≤ a2 ∧ a2 < 16 ∧ ¬ a0 ≤ a2 ∧ Plain.has (Plain.row a0 a1) a2 = false) ∨ (0 ≤ a2 ∧ ¬ a2 < 16 ∧ Plain.has (Plain.row a0 a1) a2 = false) ∨
    (¬ 0 ≤ a2 ∧ Plain.has (Plain.row a0 a1) a2 = false) := by
  rw [row_has]
  by_cases c1 : 0 ≤ a2 <;> by_cases c2 : a2 < 16 <;> by_cases c3 : a0 ≤ a2 <;> by_cases c4 : a2 ≤ a1 <;> simp [c1, c2, c3, c4]

set_option maxHeartbeats 1000000 in
theorem rows_walk (a0 : Int) (a1 : Int) (a2 : Int) (_w0 : (Lit.int .i64 a0).wf = true) (_w1 : (Lit.int .i64 a1).wf = true) (_w2 : (Lit.int .i64 a2).wf = true) (w : World) :
    Calls Try.prog 4 #[.int .i64 a0, .int .i64 a1, .int .i64 a2] w fun e w' => e = .returned (.bool true) ∧ Below w.heap.size w w' := by
  clear _w0 _w1 _w2
  have hl := Plain.row_lt a0 a1
  have hc := row_cases a0 a1 a2
  generalize hx : Plain.has (Plain.row a0 a1) a2 = x at *
  have HX := Lib.hid hx
  clear hx
  rcases hc with ⟨c1, c2, c3, c4, rfl⟩ | ⟨c1, c2, c3, c4, rfl⟩ | ⟨c1, c2, c3, rfl⟩ | ⟨c1, c2, rfl⟩ | ⟨c1, rfl⟩
  all_goals
    go_enter Try.func4, Try.ntmps4
    go_wp2_with fail
    ((with_reducible refine (row_any a0 a1 _).mono ?_); rintro e w1 ⟨rfl, hb1⟩)
    go_wp2_with fail
    ((with_reducible refine (rrow_any a0 a1 _).mono ?_); rintro e w2 ⟨rfl, rfl⟩)
    go_wp2_with fail
    ((with_reducible refine (has_any _ a2 _ hl).mono ?_); rintro e w2 ⟨rfl, rfl⟩)
    rw [HX.out]
    go_wp2_with fail
    ((with_reducible refine (alive_any _).mono ?_); rintro e w2 ⟨rfl, hb2⟩)
    go_wp2
    go_ret
    exact ⟨by first | rfl | exact ret_bool (by simp; omega), hb1.trans (hb2.mono hb1.size)⟩

/-- Two slices of the call's own that hold the same numbers. -/
theorem ints_of_own {w : World} {base : Nat} {v : Value} {n : Nat} {zs : List Int} (h : w.ownsRow base 3 1 v n (zs.map (Value.int .i64))) : ∃ A c, v = .slice A n c ∧ Ints w w.heap.size A n zs := own_form h

set_option maxHeartbeats 1000000 in
theorem tells_walk (a0 : Int) (a1 : Int) (a2 : Int) (a3 : Option Addr) (len3 cap3 : Nat) (z3 : List Int) (w : World) (w0 : (Lit.int .u16 a0).wf = true) (w1 : (Lit.int .u16 a1).wf = true) (_w2 : (Lit.int .i64 a2).wf = true) (w3 : IsRow .i64 w a3 len3 cap3 z3) :
    Calls Try.prog 3 #[.int .u16 a0, .int .u16 a1, .int .i64 a2, .slice a3 len3 cap3] w fun e w' => e = .returned (.bool true) ∧ Below w.heap.size w w' := by
  obtain ⟨s, rfl, hs⟩ := nat_u16 w0
  obtain ⟨t, rfl, ht⟩ := nat_u16 w1
  have hi := w3.ints
  have hn := w3.le
  clear w0 w1 _w2 w3
  generalize z3.take len3 = zs at *
  by_cases hlen : 1024 < len3
  · have hq : (1024 : Int) < (len3 : Int) := by omega
    go_enter Try.func3, Try.ntmps3
    go_wp2_with fail
    ((with_reducible refine (alive_any _).mono ?_); rintro e w2 ⟨rfl, hb2⟩)
    go_wp2
    go_ret
    exact ⟨rfl, hb2⟩
  · have hq : ¬ (1024 : Int) < (len3 : Int) := by omega
    have hk := Plain.elems_length_le s 16
    have hk2 : (Plain.elems s 16).length ≤ 9223372036854775807 := by omega
    generalize hE : Plain.elems s 16 = es at *
    have HE := Lib.hid hE
    clear hE
    go_enter Try.func3, Try.ntmps3
    go_wp2_with fail
    ((with_reducible refine (has_any s a2 _ hs).mono ?_); rintro e w2 ⟨rfl, rfl⟩)
    go_wp2_with fail
    ((with_reducible refine (rhas_any s a2 _ hs).mono ?_); rintro e w2 ⟨rfl, rfl⟩)
    go_wp2_with fail
    ((with_reducible refine (with_any s _ _ _ zs _ _ hs hi hn).mono ?_); rintro e w2 ⟨rfl, rfl⟩)
    go_wp2_with fail
    ((with_reducible refine (rwith_any s _ _ _ zs _ _ hs hi hn).mono ?_); rintro e w2 ⟨rfl, rfl⟩)
    go_wp2_with fail
    ((with_reducible refine (without_any s _ _ _ zs _ _ hs hi hn).mono ?_); rintro e w2 ⟨rfl, rfl⟩)
    go_wp2_with fail
    ((with_reducible refine (rwithout_any s _ _ _ zs _ _ hs hi hn).mono ?_); rintro e w2 ⟨rfl, rfl⟩)
    go_wp2_with fail
    ((with_reducible refine (len_any s _ hs).mono ?_); rintro e w2 ⟨rfl, m, rfl⟩)
    rw [HE.out]
    go_wp2_with fail
    ((with_reducible refine (rall_any s _ hs).mono ?_); rintro e w2 ⟨v, rfl, hown, hb1⟩)
    rw [HE.out] at hown
    obtain ⟨A, c, rfl, _⟩ := ints_of_own hown
    clear hown
    go_wp2_with fail
    ((with_reducible refine (all_any s _ hs).mono ?_); rintro e w3 ⟨v, rfl, hown, hb2⟩)
    rw [HE.out] at hown
    obtain ⟨A1, c1, rfl, r1⟩ := ints_of_own hown
    clear hown
    go_wp2_with fail
    ((with_reducible refine (rall_any s _ hs).mono ?_); rintro e w4 ⟨v, rfl, hown, hb3⟩)
    rw [HE.out] at hown
    obtain ⟨A2, c2, rfl, r2⟩ := ints_of_own hown
    clear hown
    have r1' : Ints w4 w3.heap.size A1 es.length es := Reads.below r1 hb3
    go_wp2_with fail
    ((with_reducible refine (numbers_any _ _ _ es _ _ _ es _ _ _ r1' r2 hk2).mono ?_); rintro e w5 ⟨rfl, m', rfl⟩)
    go_wp2_with fail
    ((with_reducible refine (part_any s t _ hs ht).mono ?_); rintro e w6 ⟨rfl, rfl⟩)
    go_wp2_with fail
    ((with_reducible refine (rpart_any s t _ hs ht).mono ?_); rintro e w6 ⟨rfl, rfl⟩)
    go_wp2_with fail
    ((with_reducible refine (alive_any _).mono ?_); rintro e w6 ⟨rfl, hb6⟩)
    go_wp2
    go_ret
    have b0 : Below w.heap.size w (w.drewN m) := below_drewN _ _ _
    have s2 : w.heap.size ≤ w2.heap.size := hb1.size
    have b1 : Below w.heap.size w w2 := b0.trans hb1
    have b2 : Below w.heap.size w w3 := b1.trans (hb2.mono s2)
    have b3 : Below w.heap.size w w4 := b2.trans (hb3.mono b2.size)
    have b4 : Below w.heap.size w (w4.drewN m') := b3.trans (below_drewN _ _ _)
    exact ⟨rfl, b4.trans (hb6.mono b4.size)⟩

end Go.Proofs.Ythnboggjlppopaa
