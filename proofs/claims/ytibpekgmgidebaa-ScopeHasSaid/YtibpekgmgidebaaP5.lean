/- The walk of the reference's Behind. -/
import Derived.Test.YtibpekgmgidebaaP4
set_option linter.unusedSimpArgs false
set_option linter.unusedVariables false
namespace Go.Proofs.Ytibpekgmgidebaa.Pl
open Go.RowKit
open Fl

/-- Two cells of a block hold a place. -/
def Two (w : World) (b : Nat) (l c : Int) : Prop := w.cell? ⟨b, 0, none⟩ = some (.int .i64 l) ∧ w.cell? ⟨b, 1, none⟩ = some (.int .i64 c) ∧ w.frozen? ⟨b, 0, none⟩ = false ∧ w.frozen? ⟨b, 1, none⟩ = false
theorem Two.below {w w' : World} {B b : Nat} {l c : Int} (h : Two w b l c) (hb : Below B w w') (hB : b < B) : Two w' b l c :=
  ⟨(hb.cell (p := ⟨b, 0, none⟩) hB).trans h.1, (hb.cell (p := ⟨b, 1, none⟩) hB).trans h.2.1, (hb.frozen (p := ⟨b, 0, none⟩) hB).trans h.2.2.1, (hb.frozen (p := ⟨b, 1, none⟩) hB).trans h.2.2.2⟩
theorem Two.set0 {w : World} {b : Nat} {l c : Int} (h : Two w b l c) (x : Int) : Two (w.setCell ⟨b, 0, none⟩ (.int .i64 x)) b x c :=
  ⟨World.cell?_setCell_same _ _ _ h.1, (World.cell?_setCell_other _ _ _ _ (by simp)).trans h.2.1, by rw [World.frozen?_setCell]; exact h.2.2.1, by rw [World.frozen?_setCell]; exact h.2.2.2⟩
theorem Two.set1 {w : World} {b : Nat} {l c : Int} (h : Two w b l c) (x : Int) : Two (w.setCell ⟨b, 1, none⟩ (.int .i64 x)) b l x :=
  ⟨(World.cell?_setCell_other _ _ _ _ (by simp)).trans h.1, World.cell?_setCell_same _ _ _ h.2.1, by rw [World.frozen?_setCell]; exact h.2.2.1, by rw [World.frozen?_setCell]; exact h.2.2.2⟩
theorem Two.set_far {w : World} {b : Nat} {l c : Int} (h : Two w b l c) {p : Addr} (hp : p.block ≠ b) (v : Value) : Two (w.setCell p v) b l c :=
  ⟨(World.cell?_setCell_other _ _ _ _ (by intro e; subst e; simp at hp)).trans h.1, (World.cell?_setCell_other _ _ _ _ (by intro e; subst e; simp at hp)).trans h.2.1, by rw [World.frozen?_setCell]; exact h.2.2.1, by rw [World.frozen?_setCell]; exact h.2.2.2⟩
theorem behN_pair (n m : Nat) (r : List UInt8) : behN (n, m) r = behN (ofN n m) r := by
  cases a : isN (n, m)
  · rw [behN_out a, ofN_out, behN_out rfl]
    by_cases g : isR n m = true
    · have := isR_in g
      simp [isN, inN] at a
      omega
    · simpa using g
  · have := isN_bd a
    rw [ofN_in (isR_mk (by omega) (by omega) (by omega) (by omega))]; rfl
theorem ret_R {a b : Int} {p : Nat × Nat} (h1 : a = p.1) (h2 : b = p.2) : Ending.returned (.agg #[.int .i64 a, .int .i64 b]) = .returned (.agg #[.int .i64 (p.1 : Nat), .int .i64 (p.2 : Nat)]) := by subst h1 h2; rfl

end Go.Proofs.Ytibpekgmgidebaa.Pl
