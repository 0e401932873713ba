/- A part of the proof: G4. -/
import Derived.Test.YtecmjhohniipoaaZ1
import Derived.Test.YtecmjhohniipoaaZ13
import Derived.Deep.QuietTactic
import Derived.BigQuiet
import Derived.StillTailTactics
set_option linter.unusedSimpArgs false
set_option linter.unusedVariables false

section
namespace Go.Proofs.Ytecmjhohniipoaa.Ex
open Go.RowKit
open Tr (Nd Fo RepS RepN Rep)
open Lx (Tk noTk Blk run_store_complexL TokAt)
open Fl
attribute [local go_sem] run_store_complexL
structure QInv (w0 w : World) (br : Nat) (A : Option Addr) (c : Nat) (L : List PT) (i : Nat) (bad : Bool) : Prop where
 row : Blk w br 55 #[.slice A L.length c, .int .i64 i, .bool bad]
 grown : w0.grownBy w (some br)
section
variable {w0 w w' : World} {br c i : Nat} {A : Option Addr} {L : List PT} {bad : Bool}
theorem QInv.below (h : QInv w0 w br A c L i bad) (hb : Below w.heap.size w w') : QInv w0 w' br A c L i bad :=
 ⟨h.row.below hb h.row.lt, grown_trans h.grown (grown_of_below hb _)⟩
theorem QInv.tok (h : QInv w0 w br A c L i bad) (ht : Toks w0 br A L) {k : Nat} (hk : k < L.length) : ∃ g off, A = some ⟨g, off, none⟩ ∧ ∀ j, j < 5 → w.cell? ⟨g, off + k * 5 + j, none⟩ = (PT.vals L[k])[j]? := by
 obtain ⟨⟨g, off, sp⟩, e, hlt, hc⟩ := ht.reads.2 (by omega)
 have hl := flatP_len L
 have hget : ∀ m, m < L.length * 5 → ∃ u, (flatP L)[m]? = some u := fun m hm => ⟨(flatP L)[m]'(by omega), List.getElem?_eq_getElem (by omega)⟩
 have hs : sp = none := by
  obtain ⟨u, hu⟩ := hget 0 (by omega)
  have := World.cell?_spot (hc 0 u hu)
  simpa [Addr.add] using this
 subst hs
 refine ⟨g, off, e, fun j hj => ?_⟩
 rw [← flatP_at L k j hk hj]
 obtain ⟨u, hu⟩ := hget (k * 5 + j) (by omega)
 rw [hu, ← hc _ u hu]
 have ha : (⟨g, off, none⟩ : Addr).add (k * 5 + j) = ⟨g, off + k * 5 + j, none⟩ := by unfold Addr.add; split <;> simp_all [Nat.add_assoc]
 rw [ha]
 have hne := ht.far _ e
 exact World.cell?_of_block (h.grown.block g hlt (fun e => hne (by simpa using e)))
theorem QInv.at_ (h : QInv w0 w br A c L i bad) : w.cell? ⟨br, 1, none⟩ = some (.int .i64 i) ∧ w.frozen? ⟨br, 1, none⟩ = false ∧ w.cell? ⟨br, 2, none⟩ = some (.bool bad) ∧ w.frozen? ⟨br, 2, none⟩ = false ∧ br < w.heap.size := ⟨h.row.cell 1, h.row.frozen 1, h.row.cell 2, h.row.frozen 2, h.row.lt⟩
theorem QInv.set_ (h : QInv w0 w br A c L i bad) (j : Nat) : QInv w0 (w.setCell ⟨br, 1, none⟩ (.int .i64 j)) br A c L j bad ∧ w.grownBy (w.setCell ⟨br, 1, none⟩ (.int .i64 j)) (some br) := by
 have hg := Lx.grown_set w br 1 (.int .i64 j)
 refine ⟨⟨?_, grown_trans h.grown hg⟩, hg⟩
 have := h.row.set_ 1 (.int .i64 j)
 simpa using this
theorem QInv.bad_ (h : QInv w0 w br A c L i bad) (b : Bool) : QInv w0 (w.setCell ⟨br, 2, none⟩ (.bool b)) br A c L i b ∧ w.grownBy (w.setCell ⟨br, 2, none⟩ (.bool b)) (some br) := by
 have hg := Lx.grown_set w br 2 (.bool b)
 refine ⟨⟨?_, grown_trans h.grown hg⟩, hg⟩
 have := h.row.set_ 2 (.bool b)
 simpa using this
end
set_option maxRecDepth 100000 in set_option maxHeartbeats 6400000 in
theorem rnow_any {w0 : World} {br c i : Nat} {A : Option Addr} {L : List PT} {bad : Bool} (ht : Toks w0 br A L) (hi : i ≤ 1000000) (w : World) (h : QInv w0 w br A c L i bad) :
 Calls Try.prog 40 #[.pointer (some ⟨br, 0, none⟩)] w fun e w' => e = .returned (PT.val (tk L i)) ∧ Below w.heap.size w w' := by
 have hlen := ht.len
 have x0 : (0 : Int) ≤ (i : Int) := by omega
 have hbA : Below w.heap.size w (w.alloc zeroB) := (Below.refl w.heap.size w).alloc (Nat.le_refl _) _
 have hP := h.below hbA
 have hB := Blk.new w 68 #[.int .u8 0, .complex .f64 0 0, .complex .f64 0 0, .string ⟨#[]⟩, .int .i64 0]
 have HBA := qh hbA
 have HB := qh hB
 have m0 := hP.row.cell 0
 have m1 := hP.row.cell 1
 simp only [List.getElem?_toArray, List.getElem?_cons_zero, List.getElem?_cons_succ] at m0 m1
 have g0 : decide ((0 : Int) ≤ (i : Int)) = true := decide_eq_true x0
 by_cases hlt : i < L.length
 ·obtain ⟨g, off, rfl, hc⟩ := hP.tok ht hlt
  have x1 : (i : Int) < (L.length : Int) := by omega
  have x2 : ¬ (i : Int) < 0 := by omega
  have g1 : decide (i < L.length) = true := decide_eq_true hlt
  have HT := qh (show tk L i = L[i] by unfold tk; rw [List.getElem?_eq_getElem hlt]; rfl)
  obtain ⟨⟨⟨k, t, n⟩, ⟨p1, p2⟩, ⟨q1, q2⟩⟩, hL⟩ : ∃ t : PT, t = L[i] := ⟨_, rfl⟩
  rw [← hL] at hc HT
  have c0 := hc 0 (by omega)
  have c1 := hc 1 (by omega)
  have c2 := hc 2 (by omega)
  have c3 := hc 3 (by omega)
  have c4 := hc 4 (by omega)
  simp only [PT.vals, Lx.Tk.vals, Pl.C, List.getElem?_cons_zero, List.getElem?_cons_succ, Nat.add_zero] at c0 c1 c2 c3 c4
  have hIW : IntKind.i64.wrap (i : Int) = (i : Int) := IntWalk.i64_in _ (by omega)
  clear hc hL h ht hbA hB hP
  go_enter Try.func40, Try.ntmps40
  go_wp2
  generalize w.alloc zeroB = wa at *
  go_quiet (fail)
  go_wp2
  have m0' : (wa.drewN nq).cell? _ = _ := m0
  have m1' : (wa.drewN nq).cell? _ = _ := m1
  have c0' : (wa.drewN nq).cell? _ = _ := c0
  have c1' : (wa.drewN nq).cell? _ = _ := c1
  have c2' : (wa.drewN nq).cell? _ = _ := c2
  have c3' : (wa.drewN nq).cell? _ = _ := c3
  have c4' : (wa.drewN nq).cell? _ = _ := c4
  have HBA := qh (Lx.below_drewN HBA.out nq)
  have HB := qh (HB.out.drewN nq)
  clear m0 m1 c0 c1 c2 c3 c4
  generalize wa.drewN nq = wb at *
  go_still_tail 10, (by kernel_rfl)
  change wpList _ _ _ _ _ wb.drew
  have HBA := qh (Lx.below_drewN HBA.out 1)
  have HB := qh (HB.out.drewN 1)
  clear m0' m1' c0' c1' c2' c3' c4'
  rw [show wb.drewN 1 = wb.drew from rfl] at HBA HB
  generalize wb.drew = wc at *
  obtain ⟨z0, z1, z2, z3, z4, f0, f1, f2, f3, f4⟩ := HB.out.tok
  go_wp2
  refine bodyPost_ret (Lx.tok_ret1 rfl _ _ w.heap.size _ _ _ _ _ rfl (Lx.tok_stored HB.out _ _ _ _ _)) rfl ?_
  exact ⟨by rw [HT.out]; rfl, Lx.below_stored HBA.out (Nat.le_refl _) _ _ _ _ _⟩
 ·have x1 : ¬ (i : Int) < (L.length : Int) := by omega
  have g1 : decide (i < L.length) = false := decide_eq_false hlt
  have HT := qh (show tk L i = noPT by unfold tk; rw [List.getElem?_eq_none (by omega)]; rfl)
  clear h ht hB hP hbA
  go_enter Try.func40, Try.ntmps40
  go_wp2
  generalize w.alloc zeroB = wa at *
  go_quiet (fail)
  have HBA := qh (Lx.below_drewN HBA.out nq)
  have HB := qh (HB.out.drewN nq)
  clear m0 m1
  generalize wa.drewN nq = wb at *
  obtain ⟨z0, z1, z2, z3, z4, f0, f1, f2, f3, f4⟩ := HB.out.tok
  go_wp2
  refine bodyPost_ret (Lx.tok_ret1 rfl _ _ w.heap.size _ _ _ _ _ rfl (Lx.tok_stored HB.out _ _ _ _ _)) rfl ?_
  exact ⟨by rw [HT.out]; simp [PT.val, noPT, noTk, Lx.Tk.val, Lx.Tk.vals, Pl.C, fl_0], Lx.below_stored HBA.out (Nat.le_refl _) _ _ _ _ _⟩
def isS (L : List PT) (i : Nat) (s : ByteArray) : Bool := decide ((tk L i).1.kind = 5) && decide ((tk L i).1.text = s)
set_option maxRecDepth 100000 in set_option maxHeartbeats 6400000 in
theorem rsym_any {w0 : World} {br c i : Nat} {A : Option Addr} {L : List PT} {bad : Bool} (ht : Toks w0 br A L) (hi : i ≤ 1000000) (s : ByteArray) (w : World) (h : QInv w0 w br A c L i bad) :
 Calls Try.prog 68 #[.pointer (some ⟨br, 0, none⟩), .string s] w fun e w' => e = .returned (.bool (!bad && isS L i s)) ∧ Below w.heap.size w w' := by
 have N1 := qh (rnow_any ht hi w h)
 have HI := qh (show isS L i s = (decide ((tk L i).1.kind = 5) && decide ((tk L i).1.text = s)) from rfl)
 have H := qh h
 obtain ⟨k, p1, p2, q1, q2, t, n, e1, e2⟩ := val_form (tk L i)
 rw [e2] at N1
 rw [e1] at HI
 have hbr := h.row.lt
 clear e1 e2 h ht hi
 generalize isS L i s = b at *
 go_enter Try.func68, Try.ntmps68
 go_wp2_with fail
 ((with_reducible refine N1.out.mono ?_); rintro e w1 ⟨rfl, hb⟩)
 have HB := qh hb
 obtain ⟨_, _, m2, _, _⟩ := (H.out.below hb).at_
 have hs := hb.size
 have hbr1 : br < w1.heap.size := by omega
 have ht1 : (t.toList == s.toList) = decide (t = s) := by
  have hl : t.toList = t.data.toList := ByteArray.toList_eq t
  have hl2 : s.toList = s.data.toList := ByteArray.toList_eq s
  rw [hl, hl2, Bool.eq_iff_iff, beq_iff_eq, decide_eq_true_eq]
  exact ⟨fun h => Lx.bytes_ext h, fun h => by rw [h]⟩
 have k5 : ((k : Int) == 5) = decide (k = 5) := by rw [Bool.eq_iff_iff, beq_iff_eq, decide_eq_true_eq]; omega
 clear hb N1 H hs
 generalize decide (t = s) = bt at *
 generalize decide (k = 5) = b5 at *
 have HI2 := qh HI.out
 clear HI
 rcases bad with _ | _ <;> rcases b5 with _ | _ <;> rcases bt with _ | _
 all_goals
  go_wp2
  go_ret
  exact ⟨ret_bool (by rw [HI2.out]; rfl), HB.out.alloc HB.out.size _⟩
def isWd (L : List PT) (i : Nat) (s : ByteArray) : Bool := decide ((tk L i).1.kind = 6) && decide ((tk L i).1.text = s)
set_option maxRecDepth 100000 in set_option maxHeartbeats 6400000 in
theorem rword_any {w0 : World} {br c i : Nat} {A : Option Addr} {L : List PT} {bad : Bool} (ht : Toks w0 br A L) (hi : i ≤ 1000000) (s : ByteArray) (w : World) (h : QInv w0 w br A c L i bad) :
 Calls Try.prog 59 #[.pointer (some ⟨br, 0, none⟩), .string s] w fun e w' => e = .returned (.bool (!bad && isWd L i s)) ∧ Below w.heap.size w w' := by
 have N1 := qh (rnow_any ht hi w h)
 have HI := qh (show isWd L i s = (decide ((tk L i).1.kind = 6) && decide ((tk L i).1.text = s)) from rfl)
 have H := qh h
 obtain ⟨k, p1, p2, q1, q2, t, n, e1, e2⟩ := val_form (tk L i)
 rw [e2] at N1
 rw [e1] at HI
 have hbr := h.row.lt
 clear e1 e2 h ht hi
 generalize isWd L i s = b at *
 go_enter Try.func59, Try.ntmps59
 go_wp2_with fail
 ((with_reducible refine N1.out.mono ?_); rintro e w1 ⟨rfl, hb⟩)
 have HB := qh hb
 obtain ⟨_, _, m2, _, _⟩ := (H.out.below hb).at_
 have hs := hb.size
 have hbr1 : br < w1.heap.size := by omega
 have ht1 : (t.toList == s.toList) = decide (t = s) := by
  have hl : t.toList = t.data.toList := ByteArray.toList_eq t
  have hl2 : s.toList = s.data.toList := ByteArray.toList_eq s
  rw [hl, hl2, Bool.eq_iff_iff, beq_iff_eq, decide_eq_true_eq]
  exact ⟨fun h => Lx.bytes_ext h, fun h => by rw [h]⟩
 have k5 : ((k : Int) == 6) = decide (k = 6) := by rw [Bool.eq_iff_iff, beq_iff_eq, decide_eq_true_eq]; omega
 clear hb N1 H hs
 generalize decide (t = s) = bt at *
 generalize decide (k = 6) = b5 at *
 have HI2 := qh HI.out
 clear HI
 rcases bad with _ | _ <;> rcases b5 with _ | _ <;> rcases bt with _ | _
 all_goals
  go_wp2
  go_ret
  exact ⟨ret_bool (by rw [HI2.out]; rfl), HB.out.alloc HB.out.size _⟩
set_option maxRecDepth 100000 in set_option maxHeartbeats 6400000 in
theorem reat_no {w0 : World} {br c i : Nat} {A : Option Addr} {L : List PT} {bad : Bool} (ht : Toks w0 br A L) (hi : i ≤ 900000) (s : ByteArray) (w : World) (h : QInv w0 w br A c L i bad) (hT : (!bad && isS L i s) = false) :
 Calls Try.prog 43 #[.pointer (some ⟨br, 0, none⟩), .string s] w fun e w' => e = .returned (.bool false) ∧ QInv w0 w' br A c L i bad ∧ w.grownBy w' (some br) := by
 have n1 := rsym_any ht (by omega) s w h
 rw [hT] at n1
 have N1 := qh n1
 have H := qh h
 clear h ht n1 hT
 go_enter Try.func43, Try.ntmps43
 go_wp2_with fail
 ((with_reducible refine N1.out.mono ?_); rintro e w1 ⟨rfl, hb⟩)
 have HP := qh (H.out.below hb)
 have HG := qh (grown_of_below hb (some br))
 clear hb N1 H
 go_wp2
 go_ret
 exact ⟨rfl, HP.out, HG.out⟩
set_option maxRecDepth 100000 in set_option maxHeartbeats 6400000 in
theorem reat_yes {w0 : World} {br c i : Nat} {A : Option Addr} {L : List PT} {bad : Bool} (ht : Toks w0 br A L) (hi : i ≤ 900000) (s : ByteArray) (w : World) (h : QInv w0 w br A c L i bad) (hT : (!bad && isS L i s) = true) :
 Calls Try.prog 43 #[.pointer (some ⟨br, 0, none⟩), .string s] w fun e w' => e = .returned (.bool true) ∧ QInv w0 w' br A c L (i + 1) bad ∧ w.grownBy w' (some br) := by
 have n1 := rsym_any ht (by omega) s w h
 rw [hT] at n1
 have N1 := qh n1
 have H := qh h
 clear h ht n1 hT
 go_enter Try.func43, Try.ntmps43
 go_wp2_with fail
 ((with_reducible refine N1.out.mono ?_); rintro e w1 ⟨rfl, hb⟩)
 have HP := qh (H.out.below hb)
 have HG := qh (grown_of_below hb (some br))
 clear hb N1 H
 obtain ⟨m1, f1, _, _, hlt⟩ := HP.out.at_
 have x0 : (0 : Int) ≤ (i : Int) := by omega
 go_wp2
 go_ret
 obtain ⟨hp, hg⟩ := HP.out.set_ (i + 1)
 exact ⟨rfl, hp, grown_trans HG.out hg⟩
set_option maxRecDepth 100000 in set_option maxHeartbeats 6400000 in
theorem reatw_no {w0 : World} {br c i : Nat} {A : Option Addr} {L : List PT} {bad : Bool} (ht : Toks w0 br A L) (hi : i ≤ 900000) (s : ByteArray) (w : World) (h : QInv w0 w br A c L i bad) (hT : (!bad && isWd L i s) = false) :
 Calls Try.prog 60 #[.pointer (some ⟨br, 0, none⟩), .string s] w fun e w' => e = .returned (.bool false) ∧ QInv w0 w' br A c L i bad ∧ w.grownBy w' (some br) := by
 have n1 := rword_any ht (by omega) s w h
 rw [hT] at n1
 have N1 := qh n1
 have H := qh h
 clear h ht n1 hT
 go_enter Try.func60, Try.ntmps60
 go_wp2_with fail
 ((with_reducible refine N1.out.mono ?_); rintro e w1 ⟨rfl, hb⟩)
 have HP := qh (H.out.below hb)
 have HG := qh (grown_of_below hb (some br))
 clear hb N1 H
 go_wp2
 go_ret
 exact ⟨rfl, HP.out, HG.out⟩
set_option maxRecDepth 100000 in set_option maxHeartbeats 6400000 in
theorem reatw_yes {w0 : World} {br c i : Nat} {A : Option Addr} {L : List PT} {bad : Bool} (ht : Toks w0 br A L) (hi : i ≤ 900000) (s : ByteArray) (w : World) (h : QInv w0 w br A c L i bad) (hT : (!bad && isWd L i s) = true) :
 Calls Try.prog 60 #[.pointer (some ⟨br, 0, none⟩), .string s] w fun e w' => e = .returned (.bool true) ∧ QInv w0 w' br A c L (i + 1) bad ∧ w.grownBy w' (some br) := by
 have n1 := rword_any ht (by omega) s w h
 rw [hT] at n1
 have N1 := qh n1
 have H := qh h
 clear h ht n1 hT
 go_enter Try.func60, Try.ntmps60
 go_wp2_with fail
 ((with_reducible refine N1.out.mono ?_); rintro e w1 ⟨rfl, hb⟩)
 have HP := qh (H.out.below hb)
 have HG := qh (grown_of_below hb (some br))
 clear hb N1 H
 obtain ⟨m1, f1, _, _, hlt⟩ := HP.out.at_
 have x0 : (0 : Int) ≤ (i : Int) := by omega
 go_wp2
 go_ret
 obtain ⟨hp, hg⟩ := HP.out.set_ (i + 1)
 exact ⟨rfl, hp, grown_trans HG.out hg⟩
set_option maxRecDepth 100000 in set_option maxHeartbeats 6400000 in
theorem rneed_no {w0 : World} {br c i : Nat} {A : Option Addr} {L : List PT} {bad : Bool} (ht : Toks w0 br A L) (hi : i ≤ 900000) (s : ByteArray) (w : World) (h : QInv w0 w br A c L i bad) (hT : (!bad && isS L i s) = false) :
 Calls Try.prog 80 #[.pointer (some ⟨br, 0, none⟩), .string s] w fun e w' => e = .returned (.tuple #[]) ∧ QInv w0 w' br A c L i true ∧ w.grownBy w' (some br) := by
 have N1 := qh (reat_no ht hi s w h hT)
 clear h ht hT
 go_enter Try.func80, Try.ntmps80
 go_wp2_with fail
 ((with_reducible refine N1.out.mono ?_); rintro e w1 ⟨rfl, hp, hg⟩)
 have HP := qh hp
 have HG := qh hg
 obtain ⟨_, _, m2, f2, hlt⟩ := hp.at_
 clear hp hg N1
 go_wp2
 go_end0
 obtain ⟨hp, hg⟩ := HP.out.bad_ true
 exact ⟨rfl, hp, grown_trans HG.out hg⟩
set_option maxRecDepth 100000 in set_option maxHeartbeats 6400000 in
theorem rneed_yes {w0 : World} {br c i : Nat} {A : Option Addr} {L : List PT} {bad : Bool} (ht : Toks w0 br A L) (hi : i ≤ 900000) (s : ByteArray) (w : World) (h : QInv w0 w br A c L i bad) (hT : (!bad && isS L i s) = true) :
 Calls Try.prog 80 #[.pointer (some ⟨br, 0, none⟩), .string s] w fun e w' => e = .returned (.tuple #[]) ∧ QInv w0 w' br A c L (i + 1) bad ∧ w.grownBy w' (some br) := by
 have N1 := qh (reat_yes ht hi s w h hT)
 clear h ht hT
 go_enter Try.func80, Try.ntmps80
 go_wp2_with fail
 ((with_reducible refine N1.out.mono ?_); rintro e w1 ⟨rfl, hp, hg⟩)
 have HP := qh hp
 have HG := qh hg
 clear hp hg N1
 go_wp2
 go_end0
 exact ⟨rfl, HP.out, HG.out⟩
end Go.Proofs.Ytecmjhohniipoaa.Ex
namespace Go.Proofs.Ytecmjhohniipoaa.Ex
open Go.RowKit
open Tr (Nd Fo RepS RepN Rep cellsN)
open Lx (Tk noTk run_store_complexL TokAt)
open Fl
attribute [local go_sem] run_store_complexL
structure NB (w0 w : World) (b : Nat) (d : Nd) (sv : Value) (xs : List Value) : Prop where
 blk : Tr.Blk w b 42 (cellsN d sv)
 own : w.ownsRow w0.heap.size 26 1 sv xs.length xs
 low : w0.heap.size ≤ b
 bel : Below w0.heap.size w0 w
theorem NB.step {w0 W w1 : World} {b g cap : Nat} {d : Nd} {sv v : Value} {xs : List Value} (h : NB w0 W b d sv xs)
 (hown : w1.ownsRow w0.heap.size 26 1 (.slice (some ⟨g, 0, none⟩) (xs.length + 1) cap) (xs.length + 1) (xs ++ [v])) (hg : W.grownBy w1 sv.ownBlock) :
 NB w0 (w1.setCell ⟨b, 4, none⟩ (.slice (some ⟨g, 0, none⟩) (xs.length + 1) cap)) b d (.slice (some ⟨g, 0, none⟩) (xs.length + 1) cap) (xs ++ [v]) := by
 obtain ⟨h1, h2, h4, h5⟩ := h
 have hne : sv.ownBlock ≠ some b := Tr.own_blk_ne h2 h1 (by decide)
 have hb1 : Tr.Blk w1 b 42 (cellsN d sv) := h1.grown hg (fun e => hne e.symm)
 have hgb : g ≠ b := by
  have := Tr.own_blk_ne hown hb1 (by decide)
  intro e; subst e; exact this rfl
 have hb5 : Below w0.heap.size w0 w1 := h5.grown hg h5.size (fun k hk => (h2.lt k hk).1)
 refine ⟨?_, ?_, h4, hb5.setCell h4 _⟩
 ·have := hb1.set_ 4 (.slice (some ⟨g, 0, none⟩) (xs.length + 1) cap)
  rwa [Tr.cellsN_set] at this
 ·rw [List.length_append, List.length_singleton]
  exact hown.kept (Tr.setCell_grown _ _ _) (.inr (by show some g ≠ some b; simpa using hgb))
theorem NB.alloc {w0 W : World} {b : Nat} {d : Nd} {sv : Value} {xs : List Value} (h : NB w0 W b d sv xs) (o : Obj) : NB w0 (W.alloc o) b d sv xs :=
 ⟨h.blk.alloc o, h.own.alloc o, h.low, h.bel.alloc h.bel.size o⟩
theorem NB.start (w : World) (d : Nd) : NB w (w.alloc (.cells (cellsN d (.slice none 0 0)) 42)) w.heap.size d (.slice none 0 0) [] :=
 ⟨Tr.Blk.new _ _ _, ⟨by simp, .inl ⟨rfl, rfl⟩⟩, Nat.le_refl _, (Below.refl _ _).alloc (Nat.le_refl _) _⟩
def ptrs : Option Addr → List Value
 | none => []
 | some p => [.pointer (some p)]
theorem ptr_facts {w W : World} {sv : Value} {vs : List Value} {p : Addr} (m : Nat) (hm : W.heap.size = m) (hw : w.heap.size ≤ W.heap.size) (hown : W.ownsRow w.heap.size 26 1 sv vs.length vs) (hn : vs.length ≤ 1000000) :
 Hid ((∀ i v, [Value.pointer (some p)][i]? = some v → (W.alloc (.cells #[.pointer (some p)] 26)).cell? ((⟨m, 0, none⟩ : Addr).add i) = some v) ∧ (∀ v ∈ [Value.pointer (some p)], v.oneCell' = true) ∧ vs.length + 1 ≤ maxLen ∧ w.heap.size ≤ (W.alloc (.cells #[.pointer (some p)] 26)).heap.size ∧ (W.alloc (.cells #[.pointer (some p)] 26)).ownsRow w.heap.size 26 1 sv vs.length vs) :=
 hm ▸ qh ⟨World.news_of_block (cs := #[.pointer (some p)]) (heap_alloc_new W _), fun v hv => by simp only [List.mem_singleton] at hv; subst hv; rfl, by unfold maxLen; omega, by rw [World.size_alloc]; omega, hown.alloc _⟩
theorem NB.grown_blk {w0 W w1 : World} {b : Nat} {d : Nd} {sv : Value} {xs : List Value} (h : NB w0 W b d sv xs) (hg : W.grownBy w1 sv.ownBlock) : Tr.Blk w1 b 42 (cellsN d sv) :=
 h.blk.grown hg (fun e => Tr.own_blk_ne h.own h.blk (by decide) e.symm)
set_option maxRecDepth 100000 in set_option maxHeartbeats 6400000 in
theorem node_any (k : Nat) (p1 p2 : Nat) (name : ByteArray) (pa pb : Option Addr) (w : World) :
 Calls Try.prog 83 #[.int .u8 k, .complex .f64 (fl p1) (fl p2), .string name, .pointer pa, .pointer pb] w fun e w' => ∃ b sv, e = .returned (.pointer (some ⟨b, 0, none⟩)) ∧ NB w w' b ⟨k, (p1, p2), name, 0⟩ sv (ptrs pa ++ ptrs pb) := by
 have N0 := qh (show NB w (w.alloc (.cells #[.int .u8 k, .complex .f64 (fl p1) (fl p2), .string name, .int .i64 0, .slice none 0 0] 42)) w.heap.size ⟨k, (p1, p2), name, 0⟩ (.slice none 0 0) [] from NB.start w ⟨k, (p1, p2), name, 0⟩)
 obtain ⟨i0, hi0, hz0, hz1, hz2⟩ := info_parts infoN
 go_enter Try.func83, Try.ntmps83
 cases pa with
 | none =>
   cases pb with
   | none =>
     go_wp2
     go_ret
     exact ⟨_, _, rfl, N0.out⟩
   | some pb =>
     have Q := ptr_facts (p := pb) (w.heap.size + 1) (World.size_alloc _ _) N0.out.bel.size N0.out.own (by simp)
     go_wp2_with (at_builtin; refine wpList_append_lies _ rfl _ _ _ rfl w.heap.size 26 i0 _ 1 8 Try.underlying40 hi0 hz0 hz1 hz2 rfl (by omega) (.slice none 0 0) 0 [] rfl Q.out.2.2.2.2 ⟨w.heap.size + 1, 0, none⟩ 1 1 [.pointer (some pb)] rfl rfl Q.out.1 Q.out.2.1 (by omega) Q.out.2.2.1 (by omega) Q.out.2.2.2.1 (w.heap.size + 1 + 1) (by rw [World.size_alloc, World.size_alloc]) ?_; intro g cap w5 hown1 hgrow hor hlt5; have B5 := qh ((N0.out.alloc _).grown_blk hgrow); have N1 := qh ((N0.out.alloc _).step hown1 hgrow); have f4 := B5.out.frozen 4; have m4 : w5.cell? ⟨w.heap.size, 4, none⟩ = some (.slice none 0 0) := B5.out.cell 4; have hl4 := B5.out.lt; clear hown1 hgrow hor hlt5)
     clear Q
     go_wp2
     go_ret
     exact ⟨_, _, rfl, N1.out⟩
 | some pa =>
   cases pb with
   | none =>
     have Q := ptr_facts (p := pa) (w.heap.size + 1) (World.size_alloc _ _) N0.out.bel.size N0.out.own (by simp)
     go_wp2_with (at_builtin; refine wpList_append_lies _ rfl _ _ _ rfl w.heap.size 26 i0 _ 1 8 Try.underlying40 hi0 hz0 hz1 hz2 rfl (by omega) (.slice none 0 0) 0 [] rfl Q.out.2.2.2.2 ⟨w.heap.size + 1, 0, none⟩ 1 1 [.pointer (some pa)] rfl rfl Q.out.1 Q.out.2.1 (by omega) Q.out.2.2.1 (by omega) Q.out.2.2.2.1 (w.heap.size + 1 + 1) (by rw [World.size_alloc, World.size_alloc]) ?_; intro g cap w5 hown1 hgrow hor hlt5; have B5 := qh ((N0.out.alloc _).grown_blk hgrow); have N1 := qh ((N0.out.alloc _).step hown1 hgrow); have f4 := B5.out.frozen 4; have m4 : w5.cell? ⟨w.heap.size, 4, none⟩ = some (.slice none 0 0) := B5.out.cell 4; have hl4 := B5.out.lt; clear hown1 hgrow hor hlt5)
     clear Q
     go_wp2
     go_ret
     exact ⟨_, _, rfl, N1.out⟩
   | some pb =>
     have Q := ptr_facts (p := pa) (w.heap.size + 1) (World.size_alloc _ _) N0.out.bel.size N0.out.own (by simp)
     go_wp2_with (first
      | (at_builtin; refine wpList_append_lies _ rfl _ _ _ rfl w.heap.size 26 i0 _ 1 8 Try.underlying40 hi0 hz0 hz1 hz2 rfl (by omega) (.slice none 0 0) 0 [] rfl Q.out.2.2.2.2 ⟨w.heap.size + 1, 0, none⟩ 1 1 [.pointer (some pa)] rfl rfl Q.out.1 Q.out.2.1 (by omega) Q.out.2.2.1 (by omega) Q.out.2.2.2.1 (w.heap.size + 1 + 1) (by rw [World.size_alloc, World.size_alloc]) ?_; intro g cap w5 hown1 hgrow hor hlt5; have B5 := qh ((N0.out.alloc _).grown_blk hgrow); have N1 := qh (show NB w (w5.setCell ⟨w.heap.size, 4, none⟩ (.slice (some ⟨g, 0, none⟩) 1 cap)) w.heap.size ⟨k, (p1, p2), name, 0⟩ (.slice (some ⟨g, 0, none⟩) 1 cap) [.pointer (some pa)] from (N0.out.alloc _).step hown1 hgrow); have f4 := B5.out.frozen 4; have m4 : w5.cell? ⟨w.heap.size, 4, none⟩ = some (.slice none 0 0) := B5.out.cell 4; have hl4 := B5.out.lt; have Q2 := ptr_facts (p := pb) (W := (w5.setCell ⟨w.heap.size, 4, none⟩ (.slice (some ⟨g, 0, none⟩) 1 cap))) w5.heap.size (World.size_setCell _ _ _) N1.out.bel.size N1.out.own (by simp); clear hown1 hgrow hor hlt5)
      | (at_builtin; refine wpList_append_lies _ rfl _ _ _ rfl w.heap.size 26 i0 _ 1 8 Try.underlying40 hi0 hz0 hz1 hz2 rfl (by omega) (.slice (some ⟨g, 0, none⟩) 1 cap) 1 [.pointer (some pa)] rfl Q2.out.2.2.2.2 ⟨w5.heap.size, 0, none⟩ 1 1 [.pointer (some pb)] rfl rfl Q2.out.1 Q2.out.2.1 (by omega) Q2.out.2.2.1 (by omega) Q2.out.2.2.2.1 (w5.heap.size + 1) (by rw [World.size_alloc, World.size_setCell]) ?_; intro g2 cap2 w6 hown2 hgrow2 hor2 hlt6; have B6 := qh ((N1.out.alloc _).grown_blk hgrow2); have N2 := qh (show NB w (w6.setCell ⟨w.heap.size, 4, none⟩ (.slice (some ⟨g2, 0, none⟩) 2 cap2)) w.heap.size ⟨k, (p1, p2), name, 0⟩ (.slice (some ⟨g2, 0, none⟩) 2 cap2) [.pointer (some pa), .pointer (some pb)] from (N1.out.alloc _).step hown2 hgrow2); have f6 := B6.out.frozen 4; have m6 : w6.cell? ⟨w.heap.size, 4, none⟩ = some (.slice (some ⟨g, 0, none⟩) 1 cap) := B6.out.cell 4; have hl6 := B6.out.lt; clear hown2 hgrow2 hor2 hlt6))
     go_wp2
     go_ret
     exact ⟨_, _, rfl, N2.out⟩
theorem node_0 {B : Nat} {w : World} (hw : B ≤ w.heap.size) (kI : Int) (k : Nat) (hk : kI = (k : Int)) (p1 p2 : Nat) (name : ByteArray) : Calls Try.prog 83 #[.int .u8 kI, .complex .f64 (fl p1) (fl p2), .string name, .pointer none, .pointer none] w fun e w' =>
 ∃ b, e = .returned (.pointer (some ⟨b, 0, none⟩)) ∧ Below w.heap.size w w' ∧ RepS (fun x => B ≤ x) w' (.node (mk k (p1, p2) name 0 []).1 (mk k (p1, p2) name 0 []).2 .no) [.pointer (some ⟨b, 0, none⟩)] := by
 subst hk
 refine (node_any k p1 p2 name none none w).mono ?_
 rintro e w' ⟨b, sv, rfl, h⟩
 refine ⟨b, rfl, h.bel, ?_⟩
 exact RepS.mk h.blk h.own (by unfold RepS; rfl) (Nat.le_trans hw h.low) (fun g hg => Nat.le_trans hw (h.own.lt g hg).1)
theorem node_1 {B : Nat} {w : World} (hw : B ≤ w.heap.size) (kI : Int) (k : Nat) (hk : kI = (k : Int)) (p1 p2 : Nat) (name : ByteArray) {x : T1} {bx : Nat} (hx : RepS (fun z => B ≤ z) w (.node x.1 x.2 .no) [.pointer (some ⟨bx, 0, none⟩)]) : Calls Try.prog 83 #[.int .u8 kI, .complex .f64 (fl p1) (fl p2), .string name, .pointer (some ⟨bx, 0, none⟩), .pointer none] w fun e w' =>
 ∃ b, e = .returned (.pointer (some ⟨b, 0, none⟩)) ∧ Below w.heap.size w w' ∧ RepS (fun x => B ≤ x) w' (.node (mk k (p1, p2) name 0 [x]).1 (mk k (p1, p2) name 0 [x]).2 .no) [.pointer (some ⟨b, 0, none⟩)] := by
 subst hk
 refine (node_any k p1 p2 name (some ⟨bx, 0, none⟩) none w).mono ?_
 rintro e w' ⟨b, sv, rfl, h⟩
 refine ⟨b, rfl, h.bel, ?_⟩
 exact RepS.mk (f := forest [x]) h.blk h.own (hx.below h.bel) (Nat.le_trans hw h.low) (fun g hg => Nat.le_trans hw (h.own.lt g hg).1)
theorem node_2 {B : Nat} {w : World} (hw : B ≤ w.heap.size) (kI : Int) (k : Nat) (hk : kI = (k : Int)) (p1 p2 : Nat) (name : ByteArray) {x y : T1} {bx by_ : Nat} (hx : RepS (fun z => B ≤ z) w (.node x.1 x.2 .no) [.pointer (some ⟨bx, 0, none⟩)]) (hy : RepS (fun z => B ≤ z) w (.node y.1 y.2 .no) [.pointer (some ⟨by_, 0, none⟩)]) :
 Calls Try.prog 83 #[.int .u8 kI, .complex .f64 (fl p1) (fl p2), .string name, .pointer (some ⟨bx, 0, none⟩), .pointer (some ⟨by_, 0, none⟩)] w fun e w' =>
  ∃ b, e = .returned (.pointer (some ⟨b, 0, none⟩)) ∧ Below w.heap.size w w' ∧ RepS (fun x => B ≤ x) w' (.node (mk k (p1, p2) name 0 [x, y]).1 (mk k (p1, p2) name 0 [x, y]).2 .no) [.pointer (some ⟨b, 0, none⟩)] := by
 subst hk
 refine (node_any k p1 p2 name (some ⟨bx, 0, none⟩) (some ⟨by_, 0, none⟩) w).mono ?_
 rintro e w' ⟨b, sv, rfl, h⟩
 refine ⟨b, rfl, h.bel, ?_⟩
 exact RepS.mk (f := forest [x, y]) h.blk h.own ((repS_cons hx hy).below h.bel) (Nat.le_trans hw h.low) (fun g hg => Nat.le_trans hw (h.own.lt g hg).1)
theorem node_un {w : World} (kI : Int) (k : Nat) (hk : kI = (k : Int)) (p1 p2 : Nat) (name : ByteArray) (pa pb : Option Addr) : Calls Try.prog 83 #[.int .u8 kI, .complex .f64 (fl p1) (fl p2), .string name, .pointer pa, .pointer pb] w fun e w' => ∃ b, e = .returned (.pointer (some ⟨b, 0, none⟩)) ∧ Below w.heap.size w w' := by
 subst hk
 refine (node_any k p1 p2 name pa pb w).mono ?_
 rintro e w' ⟨b, sv, rfl, h⟩
 exact ⟨b, rfl, h.bel⟩
end Go.Proofs.Ytecmjhohniipoaa.Ex
namespace Go.Proofs.Ytecmjhohniipoaa.Ex
open Go.RowKit
open Tr (Nd Fo RepS RepN Rep cellsN)
open Lx (Tk noTk Blk run_store_complexL TokAt)
open Fl
attribute [local go_sem] run_store_complexL run_field1 run_field3
structure OKTk (t : Tk) : Prop where
 word : t.kind = 6 → Lx.isL (t.text.data.toList.head?.getD 0) = true
 sym : t.kind = 5 → Lx.isL (t.text.data.toList.head?.getD 0) = false
 num : t.kind = 2 ∨ t.kind = 3 → t.text = sNil
 str : t.kind = 4 → t.n = 0
def OKRow (L : List PT) : Prop := ∀ i, OKTk (tk L i).1
theorem isT_S {L : List PT} (h : OKRow L) (i : Nat) (s : ByteArray) (hs : Lx.isL (s.data.toList.head?.getD 0) = false) : isS L i s = isT L i s := by
 have ho := h i
 unfold isT isSW isS
 by_cases ht : (tk L i).1.text = s
 ·by_cases h6 : (tk L i).1.kind = 6
  ·have := ho.word h6
   rw [ht, hs] at this
   cases this
  ·simp [h6]
 ·simp [ht]
theorem isT_W {L : List PT} (h : OKRow L) (i : Nat) (s : ByteArray) (hs : Lx.isL (s.data.toList.head?.getD 0) = true) : isWd L i s = isT L i s := by
 have ho := h i
 unfold isT isSW isWd
 by_cases ht : (tk L i).1.text = s
 ·by_cases h5 : (tk L i).1.kind = 5
  ·have := ho.sym h5
   rw [ht, hs] at this
   cases this
  ·simp [h5]
 ·simp [ht]
structure QG (w0 w w1 : World) (br : Nat) (A : Option Addr) (c : Nat) (L : List PT) (i : Nat) (bad : Bool) : Prop where
 inv : QInv w0 w1 br A c L i bad
 since : w.grownBy w1 (some br)
section
variable {w0 w w1 w2 : World} {br c i j : Nat} {A : Option Addr} {L : List PT} {bad bad' : Bool}
theorem QG.below (h : QG w0 w w1 br A c L i bad) (hb : Below w1.heap.size w1 w2) : QG w0 w w2 br A c L i bad := ⟨h.1.below hb, grown_trans h.2 (grown_of_below hb _)⟩
theorem QG.trans (h : QG w0 w w1 br A c L i bad) (h2 : QInv w0 w2 br A c L j bad' ∧ w1.grownBy w2 (some br)) : QG w0 w w2 br A c L j bad' := ⟨h2.1, grown_trans h.2 h2.2⟩
theorem QG.start (h : QInv w0 w br A c L i bad) : QG w0 w w br A c L i bad := ⟨h, ⟨rfl, rfl, rfl, Nat.le_refl _, fun _ _ _ => rfl⟩⟩
theorem QG.alloc (h : QG w0 w w1 br A c L i bad) (o : Obj) : QG w0 w (w1.alloc o) br A c L i bad := h.below ((Below.refl _ _).alloc (Nat.le_refl _) _)
theorem QG.set_ (h : QG w0 w w1 br A c L i bad) (j : Nat) : QG w0 w (w1.setCell ⟨br, 1, none⟩ (.int .i64 j)) br A c L j bad := ⟨(h.1.set_ j).1, grown_trans h.2 (h.1.set_ j).2⟩
theorem QG.bad_ (h : QG w0 w w1 br A c L i bad) (b : Bool) : QG w0 w (w1.setCell ⟨br, 2, none⟩ (.bool b)) br A c L i b := ⟨(h.1.bad_ b).1, grown_trans h.2 (h.1.bad_ b).2⟩
end
theorem QInv.atw {w0 w : World} {br c i : Nat} {A : Option Addr} {L : List PT} {bad : Bool} (h : QInv w0 w br A c L i bad) : atW w br = i := by
 unfold atW
 rw [show w.cell? ⟨br, 1, none⟩ = some (.int .i64 i) from h.row.cell 1]
 rfl
def RefR (B : Nat) (w0 w : World) (br : Nat) (A : Option Addr) (c : Nat) (L : List PT) (r : Except Nat (T1 × Nat)) (e : Ending) (w' : World) : Prop := match r with
 | .ok (x, j) => ∃ b, e = .returned (.pointer (some ⟨b, 0, none⟩)) ∧ QInv w0 w' br A c L j false ∧ w.grownBy w' (some br) ∧ RepS (fun y => B ≤ y) w' (.node x.1 x.2 .no) [.pointer (some ⟨b, 0, none⟩)]
 | .error k => ∃ p, e = .returned (.pointer p) ∧ QInv w0 w' br A c L k true ∧ w.grownBy w' (some br)
def RnOK (F : Nat) (sp : Nat → Except Nat (T1 × Nat)) (lo : Nat) (w0 : World) (br : Nat) (A : Option Addr) (c : Nat) (L : List PT) : Prop :=
 ∀ j, lo ≤ j → j ≤ 60000 → ∀ w, QInv w0 w br A c L j false → Calls Try.prog F #[.pointer (some ⟨br, 0, none⟩)] w (RefR w.heap.size w0 w br A c L (sp j))
section
variable {w0 : World} {br c i : Nat} {A : Option Addr} {L : List PT} (ht : Toks w0 br A L) (hi : i ≤ 900000) (s : ByteArray) (w : World)
include ht hi
theorem rsymT (ok : OKRow L) (hs : Lx.isL (s.data.toList.head?.getD 0) = false) (h : QInv w0 w br A c L i false) :
 Calls Try.prog 68 #[.pointer (some ⟨br, 0, none⟩), .string s] w fun e w' => e = .returned (.bool (isT L i s)) ∧ Below w.heap.size w w' := by
 have := rsym_any ht (by omega) s w h
 rw [isT_S ok i s hs] at this
 exact this
theorem rsym_bad (h : QInv w0 w br A c L i true) :
 Calls Try.prog 68 #[.pointer (some ⟨br, 0, none⟩), .string s] w fun e w' => e = .returned (.bool false) ∧ Below w.heap.size w w' := rsym_any ht (by omega) s w h
theorem rwordT (ok : OKRow L) (hs : Lx.isL (s.data.toList.head?.getD 0) = true) (h : QInv w0 w br A c L i false) :
 Calls Try.prog 59 #[.pointer (some ⟨br, 0, none⟩), .string s] w fun e w' => e = .returned (.bool (isT L i s)) ∧ Below w.heap.size w w' := by
 have := rword_any ht (by omega) s w h
 rw [isT_W ok i s hs] at this
 exact this
theorem rword_bad (h : QInv w0 w br A c L i true) :
 Calls Try.prog 59 #[.pointer (some ⟨br, 0, none⟩), .string s] w fun e w' => e = .returned (.bool false) ∧ Below w.heap.size w w' := rword_any ht (by omega) s w h
theorem reatT_yes (ok : OKRow L) (hs : Lx.isL (s.data.toList.head?.getD 0) = false) (h : QInv w0 w br A c L i false) (hT : isT L i s = true) :
 Calls Try.prog 43 #[.pointer (some ⟨br, 0, none⟩), .string s] w fun e w' => e = .returned (.bool true) ∧ QInv w0 w' br A c L (i + 1) false ∧ w.grownBy w' (some br) := reat_yes ht hi s w h (by rw [isT_S ok i s hs, hT]; rfl)
theorem reatT_no (ok : OKRow L) (hs : Lx.isL (s.data.toList.head?.getD 0) = false) (h : QInv w0 w br A c L i false) (hT : isT L i s = false) :
 Calls Try.prog 43 #[.pointer (some ⟨br, 0, none⟩), .string s] w fun e w' => e = .returned (.bool false) ∧ QInv w0 w' br A c L i false ∧ w.grownBy w' (some br) := reat_no ht hi s w h (by rw [isT_S ok i s hs, hT]; rfl)
theorem reat_bad (h : QInv w0 w br A c L i true) :
 Calls Try.prog 43 #[.pointer (some ⟨br, 0, none⟩), .string s] w fun e w' => e = .returned (.bool false) ∧ QInv w0 w' br A c L i true ∧ w.grownBy w' (some br) := reat_no ht hi s w h rfl
theorem reatwT_yes (ok : OKRow L) (hs : Lx.isL (s.data.toList.head?.getD 0) = true) (h : QInv w0 w br A c L i false) (hT : isT L i s = true) :
 Calls Try.prog 60 #[.pointer (some ⟨br, 0, none⟩), .string s] w fun e w' => e = .returned (.bool true) ∧ QInv w0 w' br A c L (i + 1) false ∧ w.grownBy w' (some br) := reatw_yes ht hi s w h (by rw [isT_W ok i s hs, hT]; rfl)
theorem reatwT_no (ok : OKRow L) (hs : Lx.isL (s.data.toList.head?.getD 0) = true) (h : QInv w0 w br A c L i false) (hT : isT L i s = false) :
 Calls Try.prog 60 #[.pointer (some ⟨br, 0, none⟩), .string s] w fun e w' => e = .returned (.bool false) ∧ QInv w0 w' br A c L i false ∧ w.grownBy w' (some br) := reatw_no ht hi s w h (by rw [isT_W ok i s hs, hT]; rfl)
theorem reatw_bad (h : QInv w0 w br A c L i true) :
 Calls Try.prog 60 #[.pointer (some ⟨br, 0, none⟩), .string s] w fun e w' => e = .returned (.bool false) ∧ QInv w0 w' br A c L i true ∧ w.grownBy w' (some br) := reatw_no ht hi s w h rfl
theorem rneedT_yes (ok : OKRow L) (hs : Lx.isL (s.data.toList.head?.getD 0) = false) (h : QInv w0 w br A c L i false) (hT : isT L i s = true) :
 Calls Try.prog 80 #[.pointer (some ⟨br, 0, none⟩), .string s] w fun e w' => e = .returned (.tuple #[]) ∧ QInv w0 w' br A c L (i + 1) false ∧ w.grownBy w' (some br) := rneed_yes ht hi s w h (by rw [isT_S ok i s hs, hT]; rfl)
theorem rneedT_no (ok : OKRow L) (hs : Lx.isL (s.data.toList.head?.getD 0) = false) (h : QInv w0 w br A c L i false) (hT : isT L i s = false) :
 Calls Try.prog 80 #[.pointer (some ⟨br, 0, none⟩), .string s] w fun e w' => e = .returned (.tuple #[]) ∧ QInv w0 w' br A c L i true ∧ w.grownBy w' (some br) := rneed_no ht hi s w h (by rw [isT_S ok i s hs, hT]; rfl)
theorem rneed_bad (h : QInv w0 w br A c L i true) :
 Calls Try.prog 80 #[.pointer (some ⟨br, 0, none⟩), .string s] w fun e w' => e = .returned (.tuple #[]) ∧ QInv w0 w' br A c L i true ∧ w.grownBy w' (some br) := rneed_no ht hi s w h rfl
end
set_option maxRecDepth 100000 in set_option maxHeartbeats 6400000 in
theorem rname_ok {w0 : World} {br c i : Nat} {A : Option Addr} {L : List PT} (ht : Toks w0 br A L) (hi : i ≤ 900000) (w : World) (h : QInv w0 w br A c L i false) {B : Nat} (hB : B ≤ w.heap.size) (hT : (tk L i).1.kind = 1) :
 Calls Try.prog 84 #[.pointer (some ⟨br, 0, none⟩)] w fun e w' => ∃ b, e = .returned (.pointer (some ⟨b, 0, none⟩)) ∧ QInv w0 w' br A c L (i + 1) false ∧ w.grownBy w' (some br) ∧ RepS (fun y => B ≤ y) w' (.node (mk 1 (pos L i) (tk L i).1.text 0 []).1 (mk 1 (pos L i) (tk L i).1.text 0 []).2 .no) [.pointer (some ⟨b, 0, none⟩)] := by
 have N1 := qh (rnow_any ht (by omega) w h)
 have H := qh (QG.start h)
 have hbr := h.row.lt
 obtain ⟨k, p1, p2, q1, q2, t, n, e1, e2⟩ := val_form (tk L i)
 have HP := qh (show pos L i = (p1, p2) by unfold pos; rw [e1])
 have HX := qh (show (tk L i).1.text = t by rw [e1])
 rw [e1] at hT
 simp only at hT
 subst hT
 rw [e2] at N1
 clear h e1 e2 ht
 go_enter Try.func84, Try.ntmps84
 go_wp2_with fail
 ((with_reducible refine N1.out.mono ?_); rintro e w1 ⟨rfl, hb⟩)
 have hs := hb.size
 have H := qh ((H.out.below hb).alloc (.cells #[.int .u8 1, .complex .f64 (fl p1) (fl p2), .complex .f64 (fl q1) (fl q2), .string t, .int .i64 n] 68))
 have T0 := qh (Lx.Blk.new w1 68 #[.int .u8 1, .complex .f64 (fl p1) (fl p2), .complex .f64 (fl q1) (fl q2), .string t, .int .i64 n])
 have hal : (w1.alloc (.cells #[.int .u8 1, .complex .f64 (fl p1) (fl p2), .complex .f64 (fl q1) (fl q2), .string t, .int .i64 n] 68)).heap.size = w1.heap.size + 1 := World.size_alloc _ _
 obtain ⟨wa, hwa⟩ : ∃ wa, w1.alloc (.cells #[.int .u8 1, .complex .f64 (fl p1) (fl p2), .complex .f64 (fl q1) (fl q2), .string t, .int .i64 n] 68) = wa := ⟨_, rfl⟩
 obtain ⟨m1, f1, m2, f2, hlt⟩ := H.out.1.at_
 rw [hwa] at H T0 hal m1 f1 m2 f2 hlt
 have HWA := qh hwa
 have x0 : (0 : Int) ≤ (i : Int) := by omega
 have hne : ¬ br = w1.heap.size := by omega
 have hne2 : ¬ w1.heap.size = br := by omega
 have T1 := qh (T0.out.far (p := ⟨br, 1, none⟩) hne2 (.int .i64 ((i + 1 : Nat) : Int)))
 have H := qh (H.out.set_ (i + 1))
 have NW := qh (node_0 (B := B) (w := wa.setCell ⟨br, 1, none⟩ (.int .i64 ((i + 1 : Nat) : Int))) (by rw [World.size_setCell]; omega) 1 1 rfl p1 p2 t)
 clear hb N1 hwa
 have c1 := T1.out.cell 1
 have c3 := T1.out.cell 3
 simp only [List.getElem?_toArray, List.getElem?_cons_zero, List.getElem?_cons_succ] at c1 c3
 rw [show ((i + 1 : Nat) : Int) = (i : Int) + 1 by omega] at c1 c3 NW H
 have c0 : w1.heap.size < (w1.alloc (.cells #[.int .u8 1, .complex .f64 (fl p1) (fl p2), .complex .f64 (fl q1) (fl q2), .string t, .int .i64 n] 68)).heap.size := by rw [HWA.out]; omega
 rw [← HWA.out] at m1 f1 m2 f2 hlt c1 c3 NW H
 go_wp2_with fail
 ((with_reducible refine NW.out.mono ?_); rintro e w2 ⟨b, rfl, hb, hr⟩)
 have H := qh (H.out.below hb)
 have HR := qh hr
 clear hb hr NW
 go_wp2
 go_ret
 rw [HP.out, HX.out]
 exact ⟨b, rfl, H.out.1, H.out.2, HR.out⟩
set_option maxRecDepth 100000 in set_option maxHeartbeats 6400000 in
theorem rname_no {w0 : World} {br c i : Nat} {A : Option Addr} {L : List PT} (ht : Toks w0 br A L) (hi : i ≤ 900000) (w : World) (h : QInv w0 w br A c L i false) (hT : ¬ (tk L i).1.kind = 1) :
 Calls Try.prog 84 #[.pointer (some ⟨br, 0, none⟩)] w fun e w' => e = .returned (.pointer none) ∧ QInv w0 w' br A c L i true ∧ w.grownBy w' (some br) := by
 have N1 := qh (rnow_any ht (by omega) w h)
 have H := qh (QG.start h)
 have hbr := h.row.lt
 obtain ⟨k, p1, p2, q1, q2, t, n, e1, e2⟩ := val_form (tk L i)
 rw [e1] at hT
 simp only at hT
 have k1 : ((k : Int) == 1) = false := by simp only [beq_eq_false_iff_ne, ne_eq]; omega
 have k2 : ((k : Int) != 1) = true := by simp [bne, k1]
 rw [e2] at N1
 clear h e1 e2 ht hT
 go_enter Try.func84, Try.ntmps84
 go_wp2_with fail
 ((with_reducible refine N1.out.mono ?_); rintro e w1 ⟨rfl, hb⟩)
 have hs := hb.size
 have hbr1 : br < w1.heap.size := by omega
 have H1 := qh (H.out.below hb)
 have H := qh (H1.out.alloc (.cells #[.int .u8 k, .complex .f64 (fl p1) (fl p2), .complex .f64 (fl q1) (fl q2), .string t, .int .i64 n] 68))
 obtain ⟨m1, f1, m2, f2, hlt⟩ := H1.out.1.at_
 clear hb N1
 go_wp2
 go_ret
 have H2 := (H1.out.bad_ true).alloc (.cells #[.int .u8 k, .complex .f64 (fl p1) (fl p2), .complex .f64 (fl q1) (fl q2), .string t, .int .i64 n] 68)
 exact ⟨rfl, H2.1, H2.2⟩
end Go.Proofs.Ytecmjhohniipoaa.Ex
namespace Go.Proofs.Ytecmjhohniipoaa.Ex
open Go.RowKit
open Tr (Nd Fo RepS RepN Rep cellsN)
open Lx (Tk noTk Blk run_store_complexL TokAt)
open Fl
attribute [local go_sem] run_store_complexL run_field1 run_field3
end Go.Proofs.Ytecmjhohniipoaa.Ex
end
