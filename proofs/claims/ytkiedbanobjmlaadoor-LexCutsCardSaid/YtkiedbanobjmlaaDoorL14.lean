/- The walk of works. -/
import Derived.Test.YtkiedbanobjmlaaDoorL13
set_option linter.unusedSimpArgs false
set_option linter.unusedVariables false
namespace Go.Proofs.YtkiedbanobjmlaaDoor.Lx
open Go.RowKit
open Pl Fl

def src1 : List UInt8 := [97, 58, 61, 48, 70, 70, 72, 32, 40, 42, 32, 98, 32, 42, 41]
def src2 : List UInt8 := [49, 46, 46, 50]
def src3 : List UInt8 := [32, 57, 66]
def toks1 : List Tok := [(⟨1, ⟨#[97]⟩, 0⟩, 0, 1), (⟨5, ⟨#[58, 61]⟩, 0⟩, 1, 3), (⟨2, ⟨#[]⟩, 255⟩, 3, 7), (noTk, 15, 15)]
def toks2 : List Tok := [(⟨2, ⟨#[]⟩, 1⟩, 0, 1), (⟨5, ⟨#[46, 46]⟩, 0⟩, 1, 3), (⟨2, ⟨#[]⟩, 2⟩, 3, 4), (noTk, 4, 4)]
theorem sc1 : scanL src1 = .ok toks1 := by kernel_rfl
theorem sc2 : scanL src2 = .ok toks2 := by kernel_rfl
theorem sc3 : scanL src3 = .error (1, 41) := by kernel_rfl
theorem sc3_at : at_ src3 1 = (1, 2) := by kernel_rfl
theorem join1 : bt (joinT toks1) = ⟨#[97, 32, 58, 61, 32, 50, 53, 53]⟩ := by
  unfold joinT txts toks1 noTk
  simp only [List.filter, List.map]
  have h0 : Lib.itoa 255 = [50, 53, 53] := by
    rw [show (255 : Int) = ((255 : Nat) : Int) from rfl, Lib.itoa_nonneg, dec_big 255 (by omega), dec_big (255 / 10) (by omega), dec_small _ (by omega)]
    rfl
  simp [txt, Lib.join, h0, bt, List.intercalate]
theorem wr1 : ∀ t ∈ toks1, t.1.kind ≠ 0 → WrOK t.1 := by
  intro t ht hk
  have h3 : t.1.kind ≠ 3 := by
    simp only [toks1, List.mem_cons, List.not_mem_nil, or_false] at ht
    rcases ht with rfl | rfl | rfl | rfl <;> decide
  refine written_ok ?_ h3
  simp only [toks1, List.mem_cons, List.not_mem_nil, or_false] at ht
  rcases ht with rfl | rfl | rfl | rfl <;> exact ⟨by decide, by decide, by decide, by decide, by decide⟩
theorem kd1 : ∀ t ∈ toks1, t.1.kind < 256 := by
  intro t ht
  simp only [toks1, List.mem_cons, List.not_mem_nil, or_false] at ht
  rcases ht with rfl | rfl | rfl | rfl <;> decide
theorem join1_len : (joinT toks1).length ≤ 1073741824 := by
  have h := congrArg (fun b : ByteArray => b.data.toList.length) join1
  have e : (bt (joinT toks1)).data.toList.length = (joinT toks1).length := by simp [bt]
  dsimp only at h
  rw [e] at h
  rw [h]
  decide
set_option maxRecDepth 100000 in
set_option maxHeartbeats 6400000 in
theorem works_any {w : World} (E : EnvJ w) : Calls Tryd.prog 9 #[] w fun e w' => e = .returned (.bool true) ∧ Below w.heap.size w w' := by
  have S1 := Scan_any ⟨#[97, 58, 61, 48, 70, 70, 72, 32, 40, 42, 32, 98, 32, 42, 41]⟩ (by decide) E.toEnvS
  rw [show (⟨#[97, 58, 61, 48, 70, 70, 72, 32, 40, 42, 32, 98, 32, 42, 41]⟩ : ByteArray).data.toList = src1 from rfl, sc1] at S1
  have HS1 := Lib.hid S1
  have HS2 := Lib.hid (fun (W : World) (E' : EnvS W) => show Calls Tryd.prog 10 #[.string ⟨#[49, 46, 46, 50]⟩] W fun e w' => scanEnd W src2 (.ok toks2) e w' by
    have := Scan_any ⟨#[49, 46, 46, 50]⟩ (by decide) E'
    rw [show (⟨#[49, 46, 46, 50]⟩ : ByteArray).data.toList = src2 from rfl, sc2] at this
    exact this)
  have HS3 := Lib.hid (fun (W : World) (E' : EnvS W) => show Calls Tryd.prog 10 #[.string ⟨#[32, 57, 66]⟩] W fun e w' => scanEnd W src3 (.error (1, 41)) e w' by
    have := Scan_any ⟨#[32, 57, 66]⟩ (by decide) E'
    rw [show (⟨#[32, 57, 66]⟩ : ByteArray).data.toList = src3 from rfl, sc3] at this
    exact this)
  have HE := Lib.hid E
  have HW1 := Lib.hid (fun (W : World) (E' : EnvS W) => show Calls Tryd.prog 13 #[.string ⟨#[69, 78, 68]⟩] W fun e w' => e = .returned (.bool true) ∧ w' = W by
    have := Word_any ⟨#[69, 78, 68]⟩ (by decide) E'
    rwa [show isW ⟨#[69, 78, 68]⟩ = true by decide] at this)
  have HW2 := Lib.hid (fun (W : World) (E' : EnvS W) => show Calls Tryd.prog 13 #[.string ⟨#[101, 110, 100]⟩] W fun e w' => e = .returned (.bool false) ∧ w' = W by
    have := Word_any ⟨#[101, 110, 100]⟩ (by decide) E'
    rwa [show isW ⟨#[101, 110, 100]⟩ = false by decide] at this)
  have HNM := Lib.hid (fun (W : World) (E' : EnvS W) => show Calls Tryd.prog 15 #[.string ⟨#[101, 110, 100]⟩] W fun e w' => e = .returned (.bool true) ∧ w' = W by
    have := Name_any ⟨#[101, 110, 100]⟩ (by decide) E'
    rwa [show isName (⟨#[101, 110, 100]⟩ : ByteArray).data.toList = true by decide] at this)
  have HOF := Lib.hid (fun (W : World) => show Calls Tryd.prog 25 #[.int .i64 1, .int .i64 2] W fun e w' => e = .returned (.complex .f64 (fl 1) (fl 2)) ∧ W = w' from Of_any 1 2 W)
  clear S1 E
  go_enter Tryd.func9, Tryd.ntmps9
  go_wp2_with fail
  refine HS1.out.mono ?_
  rintro e w1 ⟨g1, cap1, he, hrow1, hb1⟩
  have he : e = .returned (.tuple #[.slice (some ⟨g1, 0, none⟩) 4 cap1, .complex .f64 0 0, .int .i64 0]) := he
  subst he
  have hrow1 : w1.ownsRow w.heap.size 35 5 (.slice (some ⟨g1, 0, none⟩) 4 cap1) 4 (flat src1 toks1) := hrow1
  have HB1 := Lib.hid hb1
  have HR1 := Lib.hid hrow1
  clear hb1 hrow1
  go_wp2_with fail
  refine (HS2.out _ (HE.out.below HB1.out).toEnvS).mono ?_
  rintro e w2 ⟨g2, cap2, he, hrow2, hb2⟩
  have he : e = .returned (.tuple #[.slice (some ⟨g2, 0, none⟩) 4 cap2, .complex .f64 0 0, .int .i64 0]) := he
  subst he
  have hrow2 : w2.ownsRow w1.heap.size 35 5 (.slice (some ⟨g2, 0, none⟩) 4 cap2) 4 (flat src2 toks2) := hrow2
  have HB2 := Lib.hid (HB1.out.trans (hb2.mono HB1.out.size))
  have HR1b := Lib.hid (own_below HR1.out hb2)
  have HR2 := Lib.hid hrow2
  clear hb2 hrow2 HR1
  go_wp2_with fail
  refine (HS3.out _ (HE.out.below HB2.out).toEnvS).mono ?_
  rintro e w3 ⟨he, hb3⟩
  rw [sc3_at] at he
  subst he
  have HB3 := Lib.hid (HB2.out.trans (hb3.mono HB2.out.size))
  have HR1c := Lib.hid (own_below HR1b.out hb3)
  have HR2c := Lib.hid (own_below HR2.out hb3)
  clear hb3 HR1b HR2
  have a3 : w3.cell? ⟨g1, 3, none⟩ = some (.string ⟨#[97]⟩) := (World.ownsRow.cellAt HR1c.out 3 (by omega)).trans rfl
  have a8 : w3.cell? ⟨g1, 8, none⟩ = some (.string ⟨#[58, 61]⟩) := (World.ownsRow.cellAt HR1c.out 8 (by omega)).trans rfl
  have a14 : w3.cell? ⟨g1, 14, none⟩ = some (.int .i64 255) := (World.ownsRow.cellAt HR1c.out 14 (by omega)).trans rfl
  have a15 : w3.cell? ⟨g1, 15, none⟩ = some (.int .u8 0) := (World.ownsRow.cellAt HR1c.out 15 (by omega)).trans rfl
  have c8 : w3.cell? ⟨g2, 8, none⟩ = some (.string ⟨#[46, 46]⟩) := (World.ownsRow.cellAt HR2c.out 8 (by omega)).trans rfl
  have HE3 := Lib.hid (HE.out.below HB3.out)
  have sp := same_c (1, 2) (1, 2) (by decide) (by decide) (by decide) (by decide)
  rw [show decide (((1, 2) : Nat × Nat) = (1, 2)) = true by decide] at sp
  dsimp only at sp
  have HRD : Hid (Reads w3 w3.heap.size 5 (some ⟨g1, 0, none⟩) toks1.length (flat src1 toks1)) := Lib.hid (by
    obtain ⟨A, c, e, h⟩ := own_form HR1c.out
    injection e with e1 e2 e3
    subst e1
    exact h)
  have HJN := Lib.hid (Join_any (c := cap1) (by decide) wr1 kd1 join1_len HRD.out HE3.out)
  rw [join1] at HJN
  go_wp2_with fail
  refine (HOF.out _).mono ?_
  rintro e w4 ⟨rfl, rfl⟩
  go_wp2_with fail
  refine (HW1.out _ HE3.out.toEnvS).mono ?_
  rintro e w4 ⟨rfl, hw⟩
  have hw2 := hw.symm
  subst hw2
  clear hw
  go_wp2_with fail
  refine (HW2.out _ HE3.out.toEnvS).mono ?_
  rintro e w4 ⟨rfl, hw⟩
  have hw2 := hw.symm
  subst hw2
  clear hw
  go_wp2_with fail
  refine (HNM.out _ HE3.out.toEnvS).mono ?_
  rintro e w4 ⟨rfl, hw⟩
  have hw2 := hw.symm
  subst hw2
  clear hw
  go_wp2_with fail
  refine HJN.out.mono ?_
  rintro e w4 ⟨rfl, hb4⟩
  have HB4 := Lib.hid (HB3.out.trans (hb4.mono HB3.out.size))
  clear hb4
  go_wp2
  go_ret
  exact ⟨rfl, HB4.out⟩
end Go.Proofs.YtkiedbanobjmlaaDoor.Lx
