/- A part of the proof: E22, E23. -/
import Derived.Test.YtkemhmfdooghkaaGreatDoorZ1
import Derived.Test.YtkemhmfdooghkaaGreatDoorZ14
import Derived.Deep.DrawnRows
import Derived.Deep.RegionHeld3
import Derived.Deep.RegionHeldLaw
import Derived.Defers
import Derived.Recover
import Derived.Laws.Pointers
import Derived.RegionTactic
set_option linter.unusedSimpArgs false
set_option linter.unusedVariables false

section
namespace Go.Proofs.YtkemhmfdooghkaaGreatDoor.Ex
open Go.RowKit
open Tr (Nd Fo RepS RepN Rep)
open Lx (Tk noTk Blk run_store_complexL TokAt)
open Fl
attribute [local go_sem] run_store_complexL run_field1 run_field3
attribute [local go_sem ↓] Go.wp_at_zero Go.wp_at_succ
theorem fn_down {F : Nat} {sp : Nat → Except Nat (T1 × Nat)} {w0 : World} {br c : Nat} {A : Option Addr} {L : List PT} {lo : Nat}
 (h : ∀ i, lo ≤ i → i ≤ 60000 → FnOK F sp (i + 1) w0 br A c L → ∀ w, PInv w0 w br A c L i → Calls Tryz.prog F #[.pointer (some ⟨br, 0, none⟩)] w (TreeR w.heap.size w0 w br A c L (sp i))) : ∀ n i, lo ≤ i → 60001 ≤ i + n → FnOK F sp i w0 br A c L := by
 intro n
 induction n with
 | zero => intro i hlo hi j hj hj2; omega
 | succ n ih =>
   intro i hlo hi j hj hj2 w hw
   have h1 := ih (i + 1) (by omega) (by omega)
   rcases Nat.eq_or_lt_of_le hj with e | e
   ·subst e; exact h i hlo hj2 h1 w hw
   ·exact h1 j e hj2 w hw
theorem isT_end {L : List PT} {i : Nat} {s : ByteArray} (h : L.length ≤ i) : isT L i s = false := by
 cases hT : isT L i s
 ·rfl
 ·have := isT_lt hT; omega
theorem kind_end {L : List PT} {i : Nat} (h : L.length ≤ i) : (tk L i).1.kind = 0 := by
 unfold tk; rw [List.getElem?_eq_none h]; rfl
theorem factP_end {L : List PT} {i : Nat} (h : L.length ≤ i) : factP L 1 i = .error i := by
 rw [factP_succ, if_neg (by rw [kind_end h]; omega), if_neg (by rw [isT_end h]; simp), if_neg (by rw [isT_end h]; simp), if_neg (by rw [isT_end h]; simp)]
 have : designP L (exprG L (factP L 0)) i = .error i := by
  unfold designP qualP nameP
  rw [if_neg (by rw [kind_end h]; omega)]
 rw [this]
theorem fac_any {w0 : World} {br c : Nat} {A : Option Addr} {L : List PT} (ht : Toks w0 br A L) : ∀ (f lo : Nat), L.length < lo + f → FnOK 142 (factP L f) lo w0 br A c L := by
 intro f
 induction f with
 | zero =>
   intro lo hlo
   refine fn_down (lo := lo) (fun i hi hi2 hF w hw => ?_) 60001 lo (Nat.le_refl _) (by omega)
   have he : L.length ≤ i := by omega
   have := fac_des ht (lo := i) (f := 0) hF i (Nat.le_refl _) hi2 w hw (by rw [kind_end he]; omega) (isT_end he) (isT_end he) (isT_end he)
   rw [factP_end he] at this
   exact this
 | succ f ih =>
   intro lo hlo i hi hi2 w hw
   have hF := ih (i + 1) (by omega)
   by_cases hk : 2 ≤ (tk L i).1.kind ∧ (tk L i).1.kind ≤ 4
   ·exact fac_lit ht i hi2 w hw hk
   ·cases hP : isT L i sPar
    ·cases hN : isT L i sNot
     ·cases hC : isT L i sCur
      ·exact fac_des ht (lo := i) hF i (Nat.le_refl _) hi2 w hw hk hP hN hC
      ·exact fac_set ht hF i (Nat.le_refl _) hi2 w hw hk hP hN hC
     ·exact fac_not ht hF i (Nat.le_refl _) hi2 w hw hk hP hN
    ·exact fac_par ht hF i (Nat.le_refl _) hi2 w hw hk hP
theorem expr_all {w0 : World} {br c : Nat} {A : Option Addr} {L : List PT} (ht : Toks w0 br A L) : FnOK 120 (exprP L) 0 w0 br A c L := expr_any ht (fac_any ht (L.length + 1) 0 (by omega)) (factP_ok _)
theorem exprP_ok {L : List PT} : SpOK L (exprP L) := levD_ok (factP_ok _) 3
theorem design_all {w0 : World} {br c : Nat} {A : Option Addr} {L : List PT} (ht : Toks w0 br A L) : FnOK 158 (designP L (exprP L)) 0 w0 br A c L := design_any ht (fun j _ => expr_all ht j (Nat.zero_le _)) exprP_ok
theorem elem_all {w0 : World} {br c : Nat} {A : Option Addr} {L : List PT} (ht : Toks w0 br A L) : FnOK 157 (elemP L (exprP L)) 0 w0 br A c L := elem_any ht (expr_all ht) exprP_ok
end Go.Proofs.YtkemhmfdooghkaaGreatDoor.Ex
end

section
namespace Go.Proofs.YtkemhmfdooghkaaGreatDoor.Ex
open Go.RowKit
theorem catch_idle (p q r : Addr) (w : World) :
 CallsD Tryz.prog 140 #[.pointer (some p), .pointer (some q), .pointer (some r)] .returning w fun e u' w' => e = .returned (.tuple #[]) ∧ u' = .returning ∧ w' = w := by
 refine callsD_of_wpS Tryz.func140 rfl fun c₀ cs hu => ?_
 apply wpS_seq
 apply wpS_region
 simp [wpOpsS, go_sem, recoverD, hu, Tryz.ntmps140, Exit.thenS]
 apply wpS_seq
 apply wpS_region
 simp [wpOpsS, go_sem, Exit.thenS, Array.replicate]
 refine wpS_cond (t := false) (by simp [Act.eval, Array.replicate]) ?_
 simp only [Bool.false_eq_true, if_false]
 refine wpS_of_wp (wp_skip ?_)
 cases c₀
 simp_all [bodyPostS, results, Tryz.results140]
theorem run_bad (k : Int) (w : World) : (Instr.typeAssert (.iface 151 (.int .i64 k)) 20 151 false).run Tryz.prog w = .ok (.int .i64 k) w := by
 kernel_rfl
theorem catch_bad (b1 b2 b3 : Nat) (k : Nat) (w : World)
 (h1 : w.cell? ⟨b1, 0, none⟩ = some (.pointer none)) (h2 : w.cell? ⟨b2, 0, none⟩ = some (.int .i64 0)) (h3 : w.cell? ⟨b3, 0, none⟩ = some (.int .i64 0)) (f1 : w.frozen? ⟨b1, 0, none⟩ = false) (f2 : w.frozen? ⟨b2, 0, none⟩ = false) (f3 : w.frozen? ⟨b3, 0, none⟩ = false)
 (n12 : b1 < b2) (n23 : b2 < b3) :
 CallsD Tryz.prog 140 #[.pointer (some ⟨b1, 0, none⟩), .pointer (some ⟨b2, 0, none⟩), .pointer (some ⟨b3, 0, none⟩)] (.panicking [{ v := .iface 151 (.int .i64 k), recovered := false }]) w fun e u' w' =>
  e = .returned (.tuple #[]) ∧ u' = .panicking [{ v := .iface 151 (.int .i64 k), recovered := true }] ∧ w' = (((w.setCell ⟨b1, 0, none⟩ (.pointer none)).setCell ⟨b2, 0, none⟩ (.int .i64 k)).setCell ⟨b3, 0, none⟩ (.int .i64 60)).drew := by
 refine callsD_of_wpS Tryz.func140 rfl fun c₀ cs hu => ?_
 apply wpS_seq
 apply wpS_region
 simp [wpOpsS, go_sem, recoverD, hu, Tryz.ntmps140, Exit.thenS]
 apply wpS_seq
 apply wpS_region
 simp [wpOpsS, go_sem, Exit.thenS, Array.replicate]
 refine wpS_cond (t := true) (by simp [Act.eval, Array.replicate]) ?_
 simp only [if_true]
 refine wpS_of_wp ?_
 have hne12 : ¬ b1 = b2 := by omega
 have hne13 : ¬ b1 = b3 := by omega
 have hne23 : ¬ b2 = b3 := by omega
 have hne21 : ¬ b2 = b1 := by omega
 have hne31 : ¬ b3 = b1 := by omega
 have hne32 : ¬ b3 = b2 := by omega
 have hta := run_bad k
 go_region
 all_goals
  simp [bodyPostS, results, Tryz.results140]
end Go.Proofs.YtkemhmfdooghkaaGreatDoor.Ex
end
