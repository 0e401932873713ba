/- HeapPlays: the reference in memory; its Room, At, Free. -/
import Derived.Test.YtfdpcjdghmdkkaaP1
import Derived.Deep.LoopGhost
import Derived.Deep.Onto
set_option linter.unusedSimpArgs false
set_option linter.unusedVariables false
namespace Go.Proofs.Ytfdpcjdghmdkkaa.Hp
open Go.RowKit Go.Sort
def wRow (n : Nat) (f : Nat → Nat) : List Value := (List.range n).map fun x => .int .u16 (f x : Nat)
theorem wRow_len (n : Nat) (f : Nat → Nat) : (wRow n f).length = n := by simp [wRow]
theorem wRow_at {n x : Nat} (f : Nat → Nat) (h : x < n) : (wRow n f)[x]? = some (.int .u16 (f x : Nat)) := by simp [wRow, h]
def updF (f : Nat → Nat) (x v : Nat) : Nat → Nat := fun y => if y = x then v else f y
theorem wRow_set {n x : Nat} (f : Nat → Nat) (v : Nat) (h : x < n) : (wRow n f).set x (.int .u16 (v : Nat)) = wRow n (updF f x v) := by
  apply List.ext_getElem?
  intro i
  rw [List.getElem?_set]
  by_cases hi : i < n
  · rw [wRow_at _ hi, wRow_at _ hi, wRow_len]
    by_cases e : x = i
    · subst e; simp [updF, h]
    · have e2 : ¬ i = x := fun q => e q.symm
      simp [e, e2, updF]
  · rw [List.getElem?_eq_none (by rw [wRow_len]; omega), List.getElem?_eq_none (by rw [wRow_len]; omega), wRow_len]
    by_cases e : x = i
    · omega
    · simp [e]
/-- The reference's heap in memory. -/
structure RefAt (B : Nat) (w : World) (hr gl : Nat) (fr n last : Nat) (f : Nat → Nat) : Prop where
  cells : w.heap[hr]? = some (.cells #[.int .i64 (fr : Nat), .slice (some ⟨gl, 0, none⟩) n n, .int .i64 (last : Nat)] 38 (0, 0))
  row : w.ownsRow B 23 1 (.slice (some ⟨gl, 0, none⟩) n n) n (wRow n f)
  ne : hr ≠ gl
  lo : B ≤ hr
section
variable {B : Nat} {w w' : World} {hr gl fr n last : Nat} {f : Nat → Nat}
theorem RefAt.lt (R : RefAt B w hr gl fr n last f) : hr < w.heap.size := (Array.getElem?_eq_some_iff.1 R.cells).1
theorem RefAt.gl_lt (R : RefAt B w hr gl fr n last f) : B ≤ gl ∧ gl < w.heap.size := World.ownsRow.lt R.row gl rfl
theorem RefAt.c0 (R : RefAt B w hr gl fr n last f) : w.cell? ⟨hr, 0, none⟩ = some (.int .i64 (fr : Nat)) := by simp [World.cell?, R.cells]
theorem RefAt.c1 (R : RefAt B w hr gl fr n last f) : w.cell? ⟨hr, 1, none⟩ = some (.slice (some ⟨gl, 0, none⟩) n n) := by simp [World.cell?, R.cells]
theorem RefAt.c2 (R : RefAt B w hr gl fr n last f) : w.cell? ⟨hr, 2, none⟩ = some (.int .i64 (last : Nat)) := by simp [World.cell?, R.cells]
theorem RefAt.fz (R : RefAt B w hr gl fr n last f) (i : Nat) : w.frozen? ⟨hr, i, none⟩ = false := by simp [World.frozen?, R.cells]
theorem RefAt.cf (R : RefAt B w hr gl fr n last f) {x : Nat} (hx : x < n) : w.cell? ⟨gl, x, none⟩ = some (.int .u16 (f x : Nat)) ∧ w.frozen? ⟨gl, x, none⟩ = false := by
  refine ⟨?_, World.ownsRow.frozenAt R.row x⟩
  rw [World.ownsRow.cellAt R.row x (by omega), wRow_at _ hx]
theorem own_eq {gl n k : Nat} (h : (Value.slice (some ⟨gl, 0, none⟩) n n).ownBlock = some k) : gl = k := by simpa [Value.ownBlock] using h
theorem RefAt.grown {row : Option Nat} (R : RefAt B w hr gl fr n last f) (hg : w.grownBy w' row) (h1 : row ≠ some hr) (h2 : row ≠ some gl) : RefAt B w' hr gl fr n last f :=
  ⟨(hg.block hr R.lt (fun e => h1 e.symm)).trans R.cells, rowK R.row hg (fun k hk e => h2 (own_eq hk ▸ e)), R.ne, R.lo⟩
theorem RefAt.below (R : RefAt B w hr gl fr n last f) (hb : Below w.heap.size w w') : RefAt B w' hr gl fr n last f :=
  R.grown (row := none) (grownB hb none) (fun h => by cases h) (fun h => by cases h)
theorem RefAt.keeps {x y : Nat} (R : RefAt B w hr gl fr n last f) (hk : Keeps2 x y w w') (h1 : hr ≠ x) (h2 : hr ≠ y) (h3 : gl ≠ x) (h4 : gl ≠ y) : RefAt B w' hr gl fr n last f := by
  have e := hk.block gl R.gl_lt.2 h3 h4
  refine ⟨(hk.block hr R.lt h1 h2).trans R.cells, ?_, R.ne, R.lo⟩
  obtain ⟨r1, r2⟩ := R.row
  refine ⟨r1, ?_⟩
  rcases r2 with ⟨q1, q2⟩ | ⟨g0, cap, cur, q1, q2⟩
  · exact .inl ⟨q1, q2⟩
  · refine .inr ⟨g0, cap, cur, q1, ?_⟩
    injection q1 with q1 _ _
    injection q1 with q1
    injection q1 with q1
    subst q1
    exact ⟨q2.1, e.trans q2.2.1, q2.2.2⟩
theorem RefAt.store (R : RefAt B w hr gl fr n last f) {x : Nat} (hx : x < n) (v : Nat) : RefAt B (w.setCell ⟨gl, x, none⟩ (.int .u16 (v : Nat))) hr gl fr n last (updF f x v) := by
  obtain ⟨r1, r2⟩ := World.ownsRow.stored R.row x (.int .u16 (v : Nat))
  rw [wRow_set _ _ hx] at r1
  exact ⟨(r2.block hr R.lt (fun e => R.ne (Option.some.inj e))).trans R.cells, r1, R.ne, R.lo⟩
theorem RefAt.last_set (R : RefAt B w hr gl fr n last f) (v : Nat) : RefAt B (w.setCell ⟨hr, 2, none⟩ (.int .i64 (v : Nat))) hr gl fr n v f := by
  have hb : (w.setCell ⟨hr, 2, none⟩ (.int .i64 (v : Nat))).heap[hr]? = some (.cells #[.int .i64 (fr : Nat), .slice (some ⟨gl, 0, none⟩) n n, .int .i64 (v : Nat)] 38 (0, 0)) := by
    unfold World.setCell
    simp only [Array.getElem?_modify, if_true, R.cells]
    rfl
  have hg : w.grownBy (w.setCell ⟨hr, 2, none⟩ (.int .i64 (v : Nat))) (some hr) := by
    have hk := KeepsWalks.setCell w ⟨hr, 2, none⟩ (.int .i64 (v : Nat))
    exact ⟨rfl, rfl, rfl, hk.size, fun k hk2 hne => Below.heap_setCell _ _ _ k (fun e => hne (congrArg some e))⟩
  exact ⟨hb, rowK R.row hg (fun k hk e => R.ne ((Option.some.inj e).trans (own_eq hk).symm)), R.ne, R.lo⟩
set_option maxRecDepth 100000 in
set_option maxHeartbeats 1000000 in
theorem rroom_any (R : RefAt B w hr gl fr n last f) (hn : n ≤ 65536) : Calls Try.prog 12 #[.pointer (some ⟨hr, 0, none⟩)] w fun e w' => e = .returned (.int .i64 (zeros f n : Nat)) ∧ w' = w := by
  have c1 := R.c1
  have HR := Lib.hid R
  clear R
  go_enter Try.func12, Try.ntmps12
  go_wp2
  go_loopg [3, 4] n (fun gh sc si wr => ∃ i : Nat, sc = .int .i64 (zeros f i : Nat) ∧ si = .int .i64 (i : Nat) ∧ i ≤ n ∧ n - i ≤ gh ∧ wr = w)
  case atStart => exact ⟨0, rfl, rfl, by omega, by omega, rfl⟩
  case round =>
    obtain ⟨i, rfl, rfl, hi1, hi2, hw⟩ := hrel
    subst hw
    by_cases hi : i < n
    · have ⟨k1, k2⟩ := HR.out.cf hi
      have hz := zeros_le f i
      by_cases h0 : f i = 0
      · rw [h0] at k1
        have hs : zeros f (i + 1) = zeros f i + 1 := by simp [zeros, h0]
        have HS := Lib.hid hs
        clear hs h0
        generalize zeros f i = z at *
        go_wp2
        go_roundg (n - i - 1)
        case rel => exact ⟨i + 1, by rw [HS.out]; rfl, by rfl, by omega, by omega, rfl⟩
        case measure => omega
      · have hs : zeros f (i + 1) = zeros f i := by simp [zeros, h0]
        have HS := Lib.hid hs
        clear hs
        have h0i : ¬ (f i : Int) = 0 := by omega
        go_wp2
        go_roundg (n - i - 1)
        case rel => exact ⟨i + 1, by rw [HS.out], by rfl, by omega, by omega, rfl⟩
        case measure => omega
    · have hin : i = n := by omega
      subst hin
      go_wp2
      go_ret
      exact ⟨rfl, rfl⟩
end
end Go.Proofs.Ytfdpcjdghmdkkaa.Hp
