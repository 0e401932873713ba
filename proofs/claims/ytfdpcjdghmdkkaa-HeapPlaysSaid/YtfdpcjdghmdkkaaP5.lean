/- HeapPlays: the reference's New; Same. -/
import Derived.Test.YtfdpcjdghmdkkaaP4
set_option linter.unusedSimpArgs false
set_option linter.unusedVariables false
namespace Go.Proofs.Ytfdpcjdghmdkkaa.Hp
open Go.RowKit Go.Sort
theorem infoU16 : (Try.prog.info? 23).map (fun i => (i.zero, i.size, i.bytes)) = some (some (.int .u16 0), 1, 2) := by kernel_rfl
theorem madeW_zero (n : Nat) : (madeCells (Value.int .u16 0).cells (n * 1)).toList = wRow n (fun _ => 0) := by
  apply List.ext_getElem?
  intro i
  rw [Nat.mul_one]
  by_cases h : i < n
  · rw [wRow_at _ h]
    simp [madeCells, h, Value.cells, Nat.mod_one]
  · rw [List.getElem?_eq_none (by simp [madeCells]; omega), List.getElem?_eq_none (by rw [wRow_len]; omega)]
set_option maxRecDepth 100000 in
theorem made_words (w : World) (n : Nat) (hn : n ≤ 65536) : ∃ w', (Instr.makeSlice 36 (.int .i64 (n : Nat)) (.int .i64 (n : Nat))).run Try.prog w = .ok (.slice (some ⟨w.heap.size, 0, none⟩) n n) w' ∧
    w'.ownsRow w.heap.size 23 1 (.slice (some ⟨w.heap.size, 0, none⟩) n n) n (wRow n (fun _ => 0)) ∧ w.grownBy w' none ∧ w'.heap.size = w.heap.size + 1 := by
  obtain ⟨i0, hi0, hz0, hz1, hz2⟩ := info_parts infoU16
  have hr := run_make (P := Try.prog) w 36 23 i0 _ Try.underlying36 hi0 hz0 .i64 .i64 n n (by omega) (Int.le_refl _) (by rw [hz2]; omega) (by omega)
  simp only [Int.toNat_natCast, hz1] at hr
  refine ⟨_, hr, ?_, World.grownBy_alloc w _ none, by simp⟩
  have := World.ownsRow_lit (base := w.heap.size) (e := 23) (size := 1) w (madeCells (Value.int .u16 0).cells (n * 1)) n (Nat.le_refl _) (by unfold maxLen; omega) (size_madeCells _ _)
  rw [madeW_zero] at this
  exact this
set_option maxRecDepth 100000 in
set_option maxHeartbeats 1000000 in
theorem rnew_bad (fr n : Int) (w : World) (h : fr < 1 ∨ fr > 65536 ∨ n < 0 ∨ n > 65536 - fr) (hn : n ≤ 9223372036854775807) (hfr : -9223372036854775808 ≤ fr) : Calls Try.prog 9 #[.int .i64 fr, .int .i64 n] w fun e w' => e = .returned (.pointer none) ∧ w' = w := by
  go_enter Try.func9, Try.ntmps9
  by_cases h1 : fr < 1
  · go_wp2
    go_ret
    exact ⟨rfl, rfl⟩
  · by_cases h2 : fr > 65536
    · go_wp2
      go_ret
      exact ⟨rfl, rfl⟩
    · by_cases h3 : n < 0
      · go_wp2
        go_ret
        exact ⟨rfl, rfl⟩
      · have h4 : n > 65536 - fr := by omega
        go_wp2
        go_ret
        exact ⟨rfl, rfl⟩
set_option maxRecDepth 100000 in
set_option maxHeartbeats 1000000 in
theorem rnew_good (fr n : Nat) (w : World) (h1 : 1 ≤ fr) (h2 : fr + n ≤ 65536) : Calls Try.prog 9 #[.int .i64 (fr : Nat), .int .i64 (n : Nat)] w fun e w' =>
    ∃ hr gl, e = .returned (.pointer (some ⟨hr, 0, none⟩)) ∧ RefAt w.heap.size w' hr gl fr n 0 (fun _ => 0) ∧ Below w.heap.size w w' := by
  obtain ⟨w3, hmk, htr, hgt, hsz⟩ := made_words w n (by omega)
  have HT := Lib.hid (And.intro htr (And.intro hgt hsz))
  clear htr hgt hsz
  go_enter Try.func9, Try.ntmps9
  have a1 : decide ((fr : Int) < 1) = false := decide_eq_false (by omega)
  have a2 : decide ((65536 : Int) < (fr : Int)) = false := decide_eq_false (by omega)
  have a3 : decide ((n : Int) < 0) = false := decide_eq_false (by omega)
  have a4 : decide (65536 - (fr : Int) < (n : Int)) = false := decide_eq_false (by omega)
  go_wp2
  go_ret
  obtain ⟨q1, q2, q3⟩ := HT.out
  refine ⟨w3.heap.size, w.heap.size, rfl, ⟨?_, World.ownsRow.alloc q1 _, by omega, by omega⟩, ((Below.refl _ w).grown q2 (Nat.le_refl _) (fun k hk => by cases hk)).alloc (by omega) _⟩
  have := heap_alloc_new w3 (.cells #[.int .i64 (fr : Nat), .slice (some ⟨w.heap.size, 0, none⟩) n n, .int .i64 0] 38)
  simpa using this
/-- Two rows that are the same. -/
def SameT (w : World) (A1 A2 : Option Addr) (c1 c2 : Nat) (L : List Nat) : Prop := Calls Try.prog 16 #[.slice A1 L.length c1, .slice A2 L.length c2] w fun e w' => e = .returned (.bool true) ∧ Below w.heap.size w w'
set_option maxRecDepth 100000 in
set_option maxHeartbeats 1000000 in
theorem same_any {w : World} {A1 A2 : Option Addr} {c1 c2 : Nat} {L : List Nat} (hL : L.length ≤ 70000) (R1 : Reads w w.heap.size 1 A1 L.length (L.map keyV)) (R2 : Reads w w.heap.size 1 A2 L.length (L.map keyV)) : SameT w A1 A2 c1 c2 L := by
  unfold SameT
  have H1 := Lib.hid R1
  have H2 := Lib.hid R2
  clear R1 R2
  go_enter Try.func16, Try.ntmps16
  go_wp2
  go_loopg [5] L.length (fun gh si wr => ∃ i : Nat, si = .int .i64 (i : Nat) ∧ i ≤ L.length ∧ L.length - i ≤ gh ∧ Hid (Below w.heap.size w wr))
  case atStart => exact ⟨0, rfl, by omega, by omega, Lib.hid (Below.refl _ _)⟩
  case round =>
    obtain ⟨i, rfl, hi1, hi2, hb⟩ := hrel
    by_cases hi : i < L.length
    · obtain ⟨b1, o1, u1, e1, l1, hu1, k1⟩ := (H1.out.below hb.out).spot hi
      obtain ⟨b2, o2, u2, e2, l2, hu2, k2⟩ := (H2.out.below hb.out).spot hi
      rw [List.getElem?_map, List.getElem?_eq_getElem hi] at hu1 hu2
      have hu1 := Option.some.inj hu1
      have hu2 := Option.some.inj hu2
      unfold keyV at hu1 hu2
      subst hu1
      subst hu2
      subst e1
      subst e2
      generalize L[i] = x at *
      go_wp2
      go_big_quiet (fail)
      have HB2 := Lib.hid (below_drewN hb.out nq)
      go_wp2
      go_roundg (L.length - i - 1)
      case rel => exact ⟨i + 1, by rfl, by omega, by omega, HB2⟩
      case measure => omega
    · have hin : i = L.length := by omega
      have HB := hb
      clear hi hi1 hi2
      have hlt : ¬ i < L.length := by omega
      go_wp2
      go_ret
      exact ⟨rfl, hb.out⟩
end Go.Proofs.Ytfdpcjdghmdkkaa.Hp
