/- The walks of place.Text, place.In and of the reference's Digits. -/
import Derived.Test.YtdpdoigmjnkmdaaDoorP5
import Derived.Test.YtdpdoigmjnkmdaaDoorShelf
import Derived.Laws.BytesString
import Derived.Laws.Concat
import Derived.Lib.AppendIntMem
import Derived.Lib.ItoaLen
import Derived.Lib.ItoaMem
set_option linter.unusedSimpArgs false
set_option linter.unusedVariables false
namespace Go.Proofs.YtdpdoigmjnkmdaaDoor.Pl
open Go.RowKit
open Fl

/-- The table that strconv reads. -/
def Tab (w : World) : Prop := Lib.TabIs Tryd.prog w "internal/strconv.uint64pow10" .u64 Lib.pow10Tab
theorem tab_below {w w' : World} (h : Tab w) (hb : Below w.heap.size w w') : Tab w' := by
  unfold Tab Lib.TabIs World.var? at h ⊢
  cases hg : Tryd.prog.globalNamed "internal/strconv.uint64pow10" with
  | none => rw [hg] at h; exact h
  | some g =>
    rw [hg] at h
    simp only [Option.bind_some] at h ⊢
    cases hh : w.heap[g]? with
    | none => rw [hh] at h; simp at h
    | some o => rw [hb.block g (Array.getElem?_eq_some_iff.1 hh).1, hh]; rw [hh] at h; exact h
theorem itoa_any (n : Nat) (w : World) (h1 : n ≤ 9223372036854775807) (ht : Tab w) :
    Calls Tryd.prog 35 #[.int .i64 n] w fun e w' => e = .returned (.string ⟨(Lib.decDigits n).toArray⟩) ∧ Below w.heap.size w w' :=
  (Tryd.strconv_Itoa n (by omega) (by omega) w ht).mono fun e w' ⟨he, k, os, hw⟩ => ⟨by rw [he, Lib.itoa_nonneg], by subst hw; exact Lib.below_grow _ _ (Nat.le_refl _) _ _⟩

def textN (p : Nat × Nat) : List UInt8 := if isN p then Lib.decDigits p.1 ++ 58 :: Lib.decDigits p.2 else []
theorem partN_in {p : Nat × Nat} (h : isN p = true) (n : Nat) : partN p n = n := by simp [partN, h]
theorem textN_in {p : Nat × Nat} (h : isN p = true) : textN p = Lib.decDigits p.1 ++ 58 :: Lib.decDigits p.2 := by simp [textN, h]
theorem textN_out {p : Nat × Nat} (h : isN p = false) : textN p = [] := by simp [textN, h]

set_option maxHeartbeats 800000 in
theorem Text_any (p : Nat × Nat) (w : World) (h1 : p.1 < 4294967296) (h2 : p.2 < 4294967296) (ht : Tab w) : Calls Tryd.prog 33 #[C p] w fun e w' => e = .returned (.string ⟨(textN p).toArray⟩) ∧ Below w.heap.size w w' := by
  have HI := Lib.hid (is_any p w h1 h2)
  cases a : isN p
  · rw [a] at HI
    have HR := Lib.hid (textN_out a)
    clear h1 h2 ht a
    generalize C p = V at *
    go_enter Tryd.func33, Tryd.ntmps33
    go_wp2_with fail
    ((with_reducible refine HI.out.mono ?_); rintro e w' ⟨rfl, rfl⟩)
    go_wp2
    go_ret
    exact ⟨by rw [HR.out]; rfl, Below.refl _ _⟩
  · have hL := Line_any p w h1 h2
    have hC := fun w' => Column_any p w' h1 h2
    rw [partN_in a] at hL hC
    rw [a] at HI
    have HL := Lib.hid hL
    have HC := Lib.hid hC
    have bd := isN_bd a
    have J1 := Lib.hid (itoa_any p.1 w (by omega) ht)
    have J2 := Lib.hid fun w' (h : Tab w') => itoa_any p.2 w' (by omega) h
    have HT := Lib.hid ht
    have HR := Lib.hid (show (⟨(textN p).toArray⟩ : ByteArray) = ⟨(Lib.decDigits p.1).toArray⟩ ++ ⟨#[58]⟩ ++ ⟨(Lib.decDigits p.2).toArray⟩ from by
      rw [textN_in a, show (⟨#[58]⟩ : ByteArray) = ⟨[58].toArray⟩ from rfl, ByteArray.mk_append_mk, ByteArray.mk_append_mk]; simp)
    have L1 := Lib.itoa_length_le p.1 (by omega) (by omega)
    have L2 := Lib.itoa_length_le p.2 (by omega) (by omega)
    rw [Lib.itoa_nonneg] at L1 L2
    clear hL hC h1 h2 ht a bd
    generalize Lib.decDigits p.1 = d1 at *
    generalize Lib.decDigits p.2 = d2 at *
    generalize C p = V at *
    go_enter Tryd.func33, Tryd.ntmps33
    go_wp2_with fail
    ((with_reducible refine HI.out.mono ?_); rintro e w' ⟨rfl, rfl⟩)
    go_wp2_with fail
    ((with_reducible refine HL.out.mono ?_); rintro e w' ⟨rfl, rfl⟩)
    go_wp2_with fail
    ((with_reducible refine J1.out.mono ?_); rintro e w1 ⟨rfl, g1⟩)
    go_wp2_with fail
    ((with_reducible refine (HC.out _).mono ?_); rintro e w' ⟨rfl, rfl⟩)
    go_wp2_with fail
    ((with_reducible refine (J2.out _ (tab_below HT.out g1)).mono ?_); rintro e w2 ⟨rfl, g2⟩)
    replace g2 := g1.trans (g2.mono g1.size)
    go_wp2
    go_ret
    exact ⟨by rw [HR.out]; rfl, g2⟩

end Go.Proofs.YtdpdoigmjnkmdaaDoor.Pl
