/- New, none, Make, At, Free, Room, Last of a heap. -/
import Derived.Test.YtfdpcjdghmdkkaaH8
import Derived.Carry
set_option linter.unusedSimpArgs false
set_option linter.unusedVariables false
namespace Go.Proofs.Ytfdpcjdghmdkkaa.Hp
open Go.RowKit Go.Sort
/-- Only the blocks h and b are written; others may come. -/
structure Keeps2 (h b : Nat) (w w' : World) : Prop where
  os : w'.os = w.os
  tape : w'.tape = w.tape
  output : w'.output = w.output
  size : w.heap.size ≤ w'.heap.size
  block : ∀ k, k < w.heap.size → k ≠ h → k ≠ b → w'.heap[k]? = w.heap[k]?
section
variable {h b : Nat} {w w' w'' : World}
theorem Keeps2.refl (h b : Nat) (w : World) : Keeps2 h b w w := ⟨rfl, rfl, rfl, Nat.le_refl _, fun _ _ _ _ => rfl⟩
theorem Keeps2.trans (h1 : Keeps2 h b w w') (h2 : Keeps2 h b w' w'') : Keeps2 h b w w'' :=
  ⟨h2.os.trans h1.os, h2.tape.trans h1.tape, h2.output.trans h1.output, Nat.le_trans h1.size h2.size, fun k hk h3 h4 => (h2.block k (by have := h1.size; omega) h3 h4).trans (h1.block k hk h3 h4)⟩
theorem Keeps2.of_below (hb : Below w.heap.size w w') : Keeps2 h b w w' := ⟨hb.os, hb.tape, hb.output, hb.size, fun k hk _ _ => hb.block k hk⟩
theorem Keeps2.set (h b : Nat) (w : World) (i : Nat) (v : Value) : Keeps2 h b w (w.setCell ⟨h, i, none⟩ v) :=
  ⟨rfl, rfl, rfl, (KeepsWalks.setCell w _ v).size, fun k _ h3 _ => Below.heap_setCell _ _ _ k h3⟩
theorem Keeps2.grown (hg : w.grownBy w' (some b)) : Keeps2 h b w w' := ⟨hg.os, hg.tape, hg.output, hg.size, fun k hk _ h4 => hg.block k hk (fun e => h4 (by injection e))⟩
theorem Keeps2.below {B : Nat} (h1 : Keeps2 h b w w') (hB : B ≤ w.heap.size) (h2 : B ≤ h) (h3 : B ≤ b) : Below B w w' :=
  ⟨h1.os, h1.tape, h1.output, h1.size, fun k hk => h1.block k (by omega) (by omega) (by omega)⟩
end
theorem HpAt.keeps {w w' : World} {h b fr n last x y : Nat} {ks : List Nat} {g : Nat → Bk} (H : HpAt w h b fr n last ks g) (hk : Keeps2 x y w w') (h1 : h ≠ x) (h2 : h ≠ y) (h3 : b ≠ x) (h4 : b ≠ y) : HpAt w' h b fr n last ks g :=
  H.kept (hk.block h H.lt h1 h2) (hk.block b H.map.lt h3 h4)
def updB (g : Nat → Bk) (m : Nat) (x : Bk) : Nat → Bk := fun k => if k = m then x else g k
theorem updB_V (g : Nat → Bk) (m : Nat) (x : Bk) : updV (fun k => bkV (g k)) m (bkV x) = fun k => bkV (updB g m x k) := by
  funext k
  unfold updV updB
  split <;> rfl
set_option maxRecDepth 100000 in
set_option maxHeartbeats 1000000 in
theorem new_bad (fr n : Int) (w : World) (h : fr < 1 ∨ fr > 65536 ∨ n < 0 ∨ n > 65536 - fr) (hn : n ≤ 9223372036854775807) (hfr : -9223372036854775808 ≤ fr) : Calls Try.prog 8 #[.int .i64 fr, .int .i64 n] w fun e w' => e = .returned (.tuple #[.pointer none, .int .i64 2]) ∧ w' = w := by
  go_enter Try.func8, Try.ntmps8
  by_cases h1 : fr < 1
  · go_wp2
    go_ret2
    exact ⟨rfl, rfl⟩
  · by_cases h2 : fr > 65536
    · go_wp2
      go_ret2
      exact ⟨rfl, rfl⟩
    · by_cases h3 : n < 0
      · go_wp2
        go_ret2
        exact ⟨rfl, rfl⟩
      · have h4 : n > 65536 - fr := by omega
        go_wp2
        go_ret2
        exact ⟨rfl, rfl⟩
set_option maxRecDepth 100000 in
set_option maxHeartbeats 1000000 in
theorem new_good (fr n : Nat) (w : World) (h1 : 1 ≤ fr) (h2 : fr + n ≤ 65536) (g : Nat → Bk) : Calls Try.prog 8 #[.int .i64 (fr : Nat), .int .i64 (n : Nat)] w fun e w' =>
    e = .returned (.tuple #[.pointer (some ⟨w.heap.size + 1, 0, none⟩), .int .i64 0]) ∧ HpAt w' (w.heap.size + 1) w.heap.size fr n 0 [] g ∧ Below w.heap.size w w' := by
  have hmm := @run_makeMap Try.prog
  go_enter Try.func8, Try.ntmps8
  have a1 : decide ((fr : Int) < 1) = false := decide_eq_false (by omega)
  have a2 : decide ((65536 : Int) < (fr : Int)) = false := decide_eq_false (by omega)
  have a3 : decide ((n : Int) < 0) = false := decide_eq_false (by omega)
  have a4 : decide (65536 - (fr : Int) < (n : Int)) = false := decide_eq_false (by omega)
  go_wp2
  go_ret2
  refine ⟨rfl, ⟨?_, ?_⟩, ((Below.refl _ w).alloc (Nat.le_refl _) _).alloc (by simp) _⟩
  · have := heap_alloc_new (w.alloc (.map #[] 0)) (.cells #[.int .i64 (fr : Nat), .int .i64 (n : Nat), .int .i64 0, .map (some w.heap.size)] 56)
    simpa using this
  · exact (IsM.made w _).alloc _
set_option maxRecDepth 100000 in
set_option maxHeartbeats 1000000 in
theorem none_nil (w : World) : Calls Try.prog 23 #[.pointer none] w fun e w' => e = .returned (.bool true) ∧ w' = w := by
  go_enter Try.func23, Try.ntmps23
  go_wp2
  go_ret
  exact ⟨rfl, rfl⟩
set_option maxRecDepth 100000 in
set_option maxHeartbeats 1000000 in
theorem none_any {w : World} {h b fr n last : Nat} {ks : List Nat} {g : Nat → Bk} (H : HpAt w h b fr n last ks g) : Calls Try.prog 23 #[.pointer (some ⟨h, 0, none⟩)] w fun e w' => e = .returned (.bool false) ∧ w' = w := by
  have c3 := H.c3
  have hE : (binOp .eql 54 (.map (some b)) (.map none)).run Try.prog w = .ok (.bool false) w := run_eql_map_nil w _ _ _ (some b) Try.underlying54
  clear H
  go_enter Try.func23, Try.ntmps23
  go_wp2
  go_ret
  exact ⟨rfl, rfl⟩
set_option maxRecDepth 100000 in
set_option maxHeartbeats 1000000 in
theorem last_any {w : World} {h b fr n last : Nat} {ks : List Nat} {g : Nat → Bk} (H : HpAt w h b fr n last ks g) (hl : last ≤ 65535) : Calls Try.prog 13 #[.pointer (some ⟨h, 0, none⟩)] w fun e w' => e = .returned (.int .u16 (last : Nat)) ∧ w' = w := by
  have c2 := H.c2
  have hn := none_any H
  have hw : IntKind.u16.wrap (last : Int) = (last : Int) := by simp [IntKind.wrap, IntKind.bits, IntKind.signed]; omega
  clear H
  go_enter Try.func13, Try.ntmps13
  go_wp2_with (go_at_call 23; refine hn.mono ?_; rintro e w' ⟨rfl, rfl⟩)
  go_ret
  exact ⟨rfl, rfl⟩
set_option maxRecDepth 100000 in
set_option maxHeartbeats 1000000 in
theorem last_nil (w : World) : Calls Try.prog 13 #[.pointer none] w fun e w' => e = .returned (.int .u16 0) ∧ w' = w := by
  have hn := none_nil w
  go_enter Try.func13, Try.ntmps13
  go_wp2_with (go_at_call 23; refine hn.mono ?_; rintro e w' ⟨rfl, rfl⟩)
  go_ret
  exact ⟨rfl, rfl⟩
set_option maxRecDepth 100000 in
set_option maxHeartbeats 1000000 in
theorem make_nil (m : Int) (w : World) : Calls Try.prog 19 #[.pointer none, .int .i64 m] w fun e w' => e = .returned (.tuple #[.int .u16 0, .int .i64 0, .int .i64 1]) ∧ w' = w := by
  have hn := none_nil w
  go_enter Try.func19, Try.ntmps19
  go_wp2_with (go_at_call 23; refine hn.mono ?_; rintro e w' ⟨rfl, rfl⟩)
  go_ret3
  exact ⟨rfl, rfl⟩
set_option maxRecDepth 100000 in
set_option maxHeartbeats 1000000 in
theorem at_nil (m : Int) (w : World) : Calls Try.prog 14 #[.pointer none, .int .u16 m] w fun e w' => e = .returned (.tuple #[.int .i64 0, .int .i64 0, .int .i64 1]) ∧ w' = w := by
  have hn := none_nil w
  go_enter Try.func14, Try.ntmps14
  go_wp2_with (go_at_call 23; refine hn.mono ?_; rintro e w' ⟨rfl, rfl⟩)
  go_ret3
  exact ⟨rfl, rfl⟩
set_option maxRecDepth 100000 in
set_option maxHeartbeats 1000000 in
theorem free_nil (m : Int) (w : World) : Calls Try.prog 20 #[.pointer none, .int .u16 m] w fun e w' => e = .returned (.int .i64 1) ∧ w' = w := by
  have hn := at_nil m w
  go_enter Try.func20, Try.ntmps20
  go_wp2_with (go_at_call 14; refine hn.mono ?_; rintro e w' ⟨rfl, rfl⟩)
  go_ret
  exact ⟨rfl, rfl⟩
set_option maxRecDepth 100000 in
set_option maxHeartbeats 1000000 in
theorem room_nil (w : World) : Calls Try.prog 11 #[.pointer none] w fun e w' => e = .returned (.int .i64 0) ∧ w' = w := by
  have hn := none_nil w
  go_enter Try.func11, Try.ntmps11
  go_wp2_with (go_at_call 23; refine hn.mono ?_; rintro e w' ⟨rfl, rfl⟩)
  go_ret
  exact ⟨rfl, rfl⟩
set_option maxRecDepth 100000 in
set_option maxHeartbeats 1000000 in
theorem live_nil (w : World) : Calls Try.prog 17 #[.pointer none] w fun e w' => e = .returned (.slice none 0 0) ∧ w' = w := by
  have hn := none_nil w
  go_enter Try.func17, Try.ntmps17
  go_wp2_with (go_at_call 23; refine hn.mono ?_; rintro e w' ⟨rfl, rfl⟩)
  go_ret
  exact ⟨rfl, rfl⟩
end Go.Proofs.Ytfdpcjdghmdkkaa.Hp
