/- Factor, all together: by induction on the fuel. -/
import Derived.Test.YtecmjhohniipoaaE21
import Derived.Deep.DrawnRows
import Derived.Deep.RegionHeld3
import Derived.Deep.RegionHeldLaw
set_option linter.unusedSimpArgs false
set_option linter.unusedVariables false
namespace Go.Proofs.Ytecmjhohniipoaa.Ex
open Go.RowKit
open Tr (Nd Fo RepS RepN Rep)
open Lx (Tk noTk Blk run_store_complexL TokAt)
open Fl
attribute [local go_sem] run_store_complexL run_field1 run_field3
attribute [local go_sem ↓] Go.wp_at_zero Go.wp_at_succ

theorem fn_down {F : Nat} {sp : Nat → Except Nat (T1 × Nat)} {w0 : World} {br c : Nat} {A : Option Addr} {L : List PT} {lo : Nat}
    (h : ∀ i, lo ≤ i → i ≤ 60000 → FnOK F sp (i + 1) w0 br A c L → ∀ w, PInv w0 w br A c L i → Calls Try.prog F #[.pointer (some ⟨br, 0, none⟩)] w (TreeR w.heap.size w0 w br A c L (sp i))) : ∀ n i, lo ≤ i → 60001 ≤ i + n → FnOK F sp i w0 br A c L := by
  intro n
  induction n with
  | zero => intro i hlo hi j hj hj2; omega
  | succ n ih =>
    intro i hlo hi j hj hj2 w hw
    have h1 := ih (i + 1) (by omega) (by omega)
    rcases Nat.eq_or_lt_of_le hj with e | e
    · subst e; exact h i hlo hj2 h1 w hw
    · exact h1 j e hj2 w hw
theorem isT_end {L : List PT} {i : Nat} {s : ByteArray} (h : L.length ≤ i) : isT L i s = false := by
  cases hT : isT L i s
  · rfl
  · have := isT_lt hT; omega
theorem kind_end {L : List PT} {i : Nat} (h : L.length ≤ i) : (tk L i).1.kind = 0 := by
  unfold tk; rw [List.getElem?_eq_none h]; rfl
theorem factP_end {L : List PT} {i : Nat} (h : L.length ≤ i) : factP L 1 i = .error i := by
  rw [factP_succ, if_neg (by rw [kind_end h]; omega), if_neg (by rw [isT_end h]; simp), if_neg (by rw [isT_end h]; simp), if_neg (by rw [isT_end h]; simp)]
  have : designP L (exprG L (factP L 0)) i = .error i := by
    unfold designP qualP nameP
    rw [if_neg (by rw [kind_end h]; omega)]
  rw [this]
theorem fac_any {w0 : World} {br c : Nat} {A : Option Addr} {L : List PT} (ht : Toks w0 br A L) : ∀ (f lo : Nat), L.length < lo + f → FnOK 95 (factP L f) lo w0 br A c L := by
  intro f
  induction f with
  | zero =>
    intro lo hlo
    refine fn_down (lo := lo) (fun i hi hi2 hF w hw => ?_) 60001 lo (Nat.le_refl _) (by omega)
    have he : L.length ≤ i := by omega
    have := fac_des ht (lo := i) (f := 0) hF i (Nat.le_refl _) hi2 w hw (by rw [kind_end he]; omega) (isT_end he) (isT_end he) (isT_end he)
    rw [factP_end he] at this
    exact this
  | succ f ih =>
    intro lo hlo i hi hi2 w hw
    have hF := ih (i + 1) (by omega)
    by_cases hk : 2 ≤ (tk L i).1.kind ∧ (tk L i).1.kind ≤ 4
    · exact fac_lit ht i hi2 w hw hk
    · cases hP : isT L i sPar
      · cases hN : isT L i sNot
        · cases hC : isT L i sCur
          · exact fac_des ht (lo := i) hF i (Nat.le_refl _) hi2 w hw hk hP hN hC
          · exact fac_set ht hF i (Nat.le_refl _) hi2 w hw hk hP hN hC
        · exact fac_not ht hF i (Nat.le_refl _) hi2 w hw hk hP hN
      · exact fac_par ht hF i (Nat.le_refl _) hi2 w hw hk hP
/-- EXPR, DESIGNATOR, ELEMENT, at every place of a row. -/
theorem expr_all {w0 : World} {br c : Nat} {A : Option Addr} {L : List PT} (ht : Toks w0 br A L) : FnOK 85 (exprP L) 0 w0 br A c L := expr_any ht (fac_any ht (L.length + 1) 0 (by omega)) (factP_ok _)
theorem exprP_ok {L : List PT} : SpOK L (exprP L) := levD_ok (factP_ok _) 3
theorem design_all {w0 : World} {br c : Nat} {A : Option Addr} {L : List PT} (ht : Toks w0 br A L) : FnOK 78 (designP L (exprP L)) 0 w0 br A c L := design_any ht (fun j _ => expr_all ht j (Nat.zero_le _)) exprP_ok
theorem elem_all {w0 : World} {br c : Nat} {A : Option Addr} {L : List PT} (ht : Toks w0 br A L) : FnOK 77 (elemP L (exprP L)) 0 w0 br A c L := elem_any ht (expr_all ht) exprP_ok
end Go.Proofs.Ytecmjhohniipoaa.Ex
