/- The law PlaceTells, all its ways. -/
import Derived.Test.YtpomnihgimgpdaaDoorL6
import Derived.Test.YtpomnihgimgpdaaDoorL6B
import Derived.Test.YtpomnihgimgpdaaDoorL6C
set_option linter.unusedSimpArgs false
set_option linter.unusedVariables false
namespace Go.Proofs.YtpomnihgimgpdaaDoor.Pl
open Go.RowKit
open Fl
open Num

set_option maxHeartbeats 1600000 in
theorem tells_heavy (s : ByteArray) (l c o b : Int) (w : World) (hs : s.size ≤ 9223372036854775807) (hv : 4096 < s.size) (ht : Tabs w) :
    Calls Tryd.prog 3 #[.int .i64 l, .int .i64 c, .int .i64 o, .int .i64 b, .string s] w fun e w' => e = .returned (.bool true) ∧ Below w.heap.size w w' := by
  have HT := Lib.hid ht
  clear ht
  have h1 := fun w' => heavy_any s w' (by omega)
  rw [show decide (4096 < s.size) = true by simp; omega] at h1
  have H1 := Lib.hid h1
  clear h1 hv
  go_enter Tryd.func3, Tryd.ntmps3
  go_wp2_with fail
  ((with_reducible refine (H1.out _).mono ?_); rintro e w' ⟨rfl, rfl⟩)
  go_wp2_with fail
  ((with_reducible refine (works_any _ HT.out).mono ?_); rintro e x1 ⟨rfl, g1⟩)
  go_wp2
  go_ret
  exact ⟨rfl, g1⟩
theorem tells_any (s : ByteArray) (l c o b : Int) (w : World) (hs : s.size ≤ 9223372036854775807) (ht : Tabs w) :
    Calls Tryd.prog 3 #[.int .i64 l, .int .i64 c, .int .i64 o, .int .i64 b, .string s] w fun e w' => e = .returned (.bool true) ∧ Below w.heap.size w w' := by
  by_cases h1 : 4096 < s.size
  · exact tells_heavy s l c o b w hs h1 ht
  · cases hz : isR l c
    · exact tells_xout s l c o b w (by omega) ht hz (befN_out1 rfl)
    · have bd := isR_in hz
      obtain ⟨L, rfl⟩ : ∃ L : Nat, l = L := ⟨l.toNat, by omega⟩
      obtain ⟨Cc, rfl⟩ : ∃ Cc : Nat, c = Cc := ⟨c.toNat, by omega⟩
      cases hy : isR o b
      · exact tells_yout s L Cc o b w (by omega) ht hz hy (by rw [ofN_out hy]; exact befN_out2 rfl)
      · have by' := isR_in hy
        have hI : isN (L, Cc) = true := by rw [isN_isR]; exact hz
        obtain ⟨O, rfl⟩ : ∃ O : Nat, o = O := ⟨o.toNat, by omega⟩
        obtain ⟨B, rfl⟩ : ∃ B : Nat, b = B := ⟨b.toNat, by omega⟩
        have hJ : isN (O, B) = true := by rw [isN_isR]; exact hy
        have e := befN_in hI hJ
        have eo : ofN (O : Int) (B : Int) = (O, B) := ofN_nat hJ
        by_cases q1 : (L : Int) < (O : Int)
        · exact tells_lt s L Cc O B w (by omega) ht hz hy q1 (by rw [eo, e]; simp; omega)
        · by_cases q2 : L = O
          · by_cases q3 : (Cc : Int) < (B : Int)
            · exact tells_eqlt s L Cc O B w (by omega) ht hz hy q1 (by rw [q2]; exact beq_self_eq_true _) q3 (by rw [eo, e]; simp; omega)
            · exact tells_eqge s L Cc O B w (by omega) ht hz hy q1 (by rw [q2]; exact beq_self_eq_true _) q3 (by rw [eo, e]; simp; omega)
          · exact tells_ne s L Cc O B w (by omega) ht hz hy q1 (by simp; omega) (by rw [eo, e]; simp; omega)

end Go.Proofs.YtpomnihgimgpdaaDoor.Pl
