/- The walk of bits.Len and of the law package's alive: what the document fixes. -/
import Derived.Test.YthnboggjlppopaaW4
import Derived.Test.YthnboggjlppopaaW5
namespace Go.Proofs.Ythnboggjlppopaa
open Go.RowKit

set_option maxHeartbeats 400000 in
theorem len_any (s : Nat) (w : World) (hs : s < 65536) :
    Calls Try.prog 14 #[.int .u16 s] w fun e w' => e = .returned (.int .i64 (Plain.elems s 16).length) ∧ ∃ m, w' = w.drewN m := by
  go_enter Try.func14, Try.ntmps14
  go_wp2_with (go_at_call 27; refine (ones_any s _ hs).mono ?_; rintro e w' ⟨rfl, m, rfl⟩)
  go_ret
  exact ⟨ret_int (by rw [Plain.ones_len s 16 (by omega)]), _, rfl⟩

theorem below_drewN (w : World) (n B : Nat) : Below B w (w.drewN n) := ⟨rfl, rfl, rfl, Nat.le_refl _, fun _ _ => rfl⟩

theorem own3 {w : World} {base : Nat} {v : Value} {a b c : Int} (h : w.ownsRow base 3 1 v 3 [.int .i64 a, .int .i64 b, .int .i64 c]) :
    ∃ g cap, v = .slice (some ⟨g, 0, none⟩) 3 cap ∧ g < w.heap.size ∧ w.cell? ⟨g, 0, none⟩ = some (.int .i64 a) ∧ w.cell? ⟨g, 2, none⟩ = some (.int .i64 c) := by
  obtain ⟨g, cap, hv, _, hlt⟩ := h.form (by omega)
  subst hv
  have hc := h.cells (g := g) rfl
  refine ⟨g, cap, rfl, hlt, ?_, ?_⟩
  · have := hc 0 _ rfl; simpa [Addr.add] using this
  · have := hc 2 _ rfl; simpa [Addr.add] using this

theorem ints_new2 (w : World) (k j : Int) : Ints (w.alloc (.cells #[.int .i64 k, .int .i64 j] 3)) (w.heap.size + 1) (some ⟨w.heap.size, 0, none⟩) 2 [k, j] := by
  refine ⟨by simp, fun _ => ⟨_, rfl, by simp, ?_⟩⟩
  intro i u hi
  match i, hi with
  | 0, hi => simp at hi; subst hi; simp [Addr.add]
  | 1, hi => simp at hi; subst hi; simp [Addr.add]


theorem all28 (w : World) : Calls Try.prog 17 #[.int .u16 28] w fun e w' => ∃ v, e = .returned v ∧ w'.ownsRow w.heap.size 3 1 v 3 [.int .i64 2, .int .i64 3, .int .i64 4] ∧ Below w.heap.size w w' := by
  have h := all_any 28 w (by omega)
  rw [show Plain.elems 28 16 = [2, 3, 4] by decide +kernel] at h
  exact h
theorem row24 (w : World) : Calls Try.prog 20 #[.int .i64 2, .int .i64 4] w fun e w' => e = .returned (.int .u16 28) ∧ Below w.heap.size w w' := by
  have h := row_any 2 4 w
  rw [show Plain.row 2 4 = 28 by decide +kernel] at h
  exact h
theorem with0 (w : World) (b B : Nat) (hi : Ints w B (some ⟨b, 0, none⟩) 2 [15, 16]) : Calls Try.prog 10 #[.int .u16 0, .slice (some ⟨b, 0, none⟩) 2 2] w fun e w' => e = .returned (.int .u16 32768) ∧ w = w' := by
  have h := with_any 0 (some ⟨b, 0, none⟩) 2 2 [15, 16] w _ (by omega) hi (by omega)
  rw [show Plain.with_ 0 [15, 16] = 32768 by decide +kernel] at h
  exact h
theorem without28 (w : World) (b B : Nat) (hi : Ints w B (some ⟨b, 0, none⟩) 1 [3]) : Calls Try.prog 12 #[.int .u16 28, .slice (some ⟨b, 0, none⟩) 1 1] w fun e w' => e = .returned (.int .u16 20) ∧ w = w' := by
  have h := without_any 28 (some ⟨b, 0, none⟩) 1 1 [3] w _ (by omega) hi (by omega)
  rw [show Plain.without 28 [3] = 20 by decide +kernel] at h
  exact h
theorem ints_at (w : World) (k : Int) (b : Nat) (hb : b = w.heap.size) : Ints (w.alloc (.cells #[.int .i64 k] 3)) (b + 1) (some ⟨b, 0, none⟩) 1 [k] := by
  subst hb; exact ints_new w k
theorem ints_at2 (w : World) (k j : Int) (b : Nat) (hb : b = w.heap.size) : Ints (w.alloc (.cells #[.int .i64 k, .int .i64 j] 3)) (b + 1) (some ⟨b, 0, none⟩) 2 [k, j] := by
  subst hb; exact ints_new2 w k j
theorem len28 (w : World) : Calls Try.prog 14 #[.int .u16 28] w fun e w' => e = .returned (.int .i64 3) ∧ ∃ m, w' = w.drewN m := by
  have h := len_any 28 w (by omega)
  rw [show Plain.elems 28 16 = [2, 3, 4] by decide +kernel] at h
  exact h
theorem has28y (w : World) : Calls Try.prog 8 #[.int .u16 28, .int .i64 2] w fun e w' => e = .returned (.bool true) ∧ w = w' := by
  have h := has_any 28 2 w (by omega)
  rw [show Plain.has 28 2 = true by decide +kernel] at h
  exact h
theorem has28n (w : World) : Calls Try.prog 8 #[.int .u16 28, .int .i64 16] w fun e w' => e = .returned (.bool false) ∧ w = w' := by
  have h := has_any 28 16 w (by omega)
  rw [show Plain.has 28 16 = false by decide +kernel] at h
  exact h
theorem part28 (w : World) : Calls Try.prog 18 #[.int .u16 4, .int .u16 28] w fun e w' => e = .returned (.bool true) ∧ w = w' := by
  have h := part_any 4 28 w (by omega) (by omega)
  rw [show Plain.part 4 28 = true by decide +kernel] at h
  exact h

set_option maxHeartbeats 400000 in
theorem alive_any (w : World) :
    Calls Try.prog 7 #[] w fun e w' => e = .returned (.bool true) ∧ Below w.heap.size w w' := by
  go_enter Try.func7, Try.ntmps7
  go_wp2_with fail
  ((with_reducible refine (all28 _).mono ?_); rintro e w1 ⟨v, rfl, hown, hb1⟩)
  obtain ⟨g, cap, rfl, hg, hc0, hc2⟩ := own3 hown
  clear hown
  go_wp2_with fail
  ((with_reducible refine (row24 _).mono ?_); rintro e w2 ⟨rfl, hb2⟩)
  have hd0 := (bcell hb2).1 g 0 hg
  have hd2 := (bcell hb2).1 g 2 hg
  rw [hc0] at hd0
  rw [hc2] at hd2
  have hb12 := hb1.trans (hb2.mono hb1.size)
  clear hc0 hc2
  go_wp2_with fail
  ((with_reducible refine (with0 _ _ _ (ints_at2 _ _ _ _ ?hb1)).mono ?_); (case hb1 => rfl); rintro e w3 ⟨rfl, rfl⟩)
  go_wp2_with fail
  ((with_reducible refine (without28 _ _ _ (ints_at _ _ _ ?hb2)).mono ?_); (case hb2 => simp); rintro e w3 ⟨rfl, rfl⟩)
  go_wp2_with fail
  ((with_reducible refine (len28 _).mono ?_); rintro e w3 ⟨rfl, m, rfl⟩)
  go_wp2_with fail
  ((with_reducible refine (has28y _).mono ?_); rintro e w3 ⟨rfl, rfl⟩)
  go_wp2_with fail
  ((with_reducible refine (has28n _).mono ?_); rintro e w3 ⟨rfl, rfl⟩)
  go_wp2_with fail
  ((with_reducible refine (part28 _).mono ?_); rintro e w3 ⟨rfl, rfl⟩)
  go_wp2
  go_ret
  exact ⟨rfl, (((hb12.alloc (by have := hb12.size; omega) _).alloc (by have := hb12.size; simp; omega) _).trans (below_drewN _ _ _))⟩

end Go.Proofs.Ythnboggjlppopaa
