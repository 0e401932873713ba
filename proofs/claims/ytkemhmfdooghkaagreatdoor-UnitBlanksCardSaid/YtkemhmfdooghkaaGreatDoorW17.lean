/- A part of the proof: N1, E2, E3, E4, E5. -/
import Derived.Test.YtkemhmfdooghkaaGreatDoorW1
import Derived.Test.YtkemhmfdooghkaaGreatDoorW16
import Derived.Test.YtkemhmfdooghkaaGreatDoorW14
import Derived.Deep.QuietTactic
import Derived.BigQuiet
import Derived.Outline
import Derived.StillTailTactics
import Derived.Deep.RegionLaw
set_option linter.unusedSimpArgs false
set_option linter.unusedVariables false
set_option maxRecDepth 100000
set_option maxHeartbeats 6400000
namespace Go.Proofs.YtkemhmfdooghkaaGreatDoor.Un
open Tr (Nd Fo)
open Lx (Tk noTk)
open Ex St De
section
variable {α β : Type} {p : Par α} {q : α → Par β} {L : List PT} {i j k : Nat} {a : α}
theorem bind_ok (h : p L i = .ok (a, j)) : bindP p q L i = q a L j := by unfold bindP; rw [h]
theorem need_y {s : ByteArray} {p : Par α} (h : isT L i s = true) : needF s p L i = p L (i + 1) := if_pos h
theorem tok_y {t : PT → Bool} {A : PT → Par α} {B : Par α} (h : t (tk L i) = true) : tokP t A B L i = A (tk L i) L (i + 1) := if_pos h
theorem tok_n {t : PT → Bool} {A : PT → Par α} {B : Par α} (h : t (tk L i) = false) : tokP t A B L i = B L i := if_neg (by rw [h]; simp)
end
abbrev sFrom : ByteArray := ⟨#[70, 82, 79, 77]⟩
abbrev sDefn : ByteArray := ⟨#[68, 69, 70, 73, 78, 73, 84, 73, 79, 78]⟩
abbrev sImpl : ByteArray := ⟨#[73, 77, 80, 76, 69, 77, 69, 78, 84, 65, 84, 73, 79, 78]⟩
def isThe (which : ByteArray) (t : PT) : Bool := isNm t && (decide (which = sNil) || decide (t.1.text = which))
def isFin (t : PT) : Bool := decide (t.1.kind = 0)
section
variable (g : Nat) (bl : Par T1) (df : Par (List T1))
def importsR : Nat → List T1 → Par (List T1)
 | 0, _ => failP
 | f + 1, acc => tokP (tT sFrom) (fun t => tokP isNm (fun n => needF sImport (bindP (namesF g []) fun l => needF sSem (importsR f (acc ++ [mk 54 t.2.1 n.1.text 0 l])))) failP)
   (tokP (tT sImport) (fun t => bindP (namesF g []) fun l => needF sSem (importsR f (acc ++ [mk 53 t.2.1 sNil 0 l]))) (retP acc))
def restF (k : Nat) (l : List T1) : Par (List T1) := if k = 50 then bindP df fun d => needF sEnd (retP (l ++ d)) else bindP bl fun b => retP (l ++ [b])
def tailF (k : Nat) (p : Nat × Nat) : Par T1 := needF sModule (tokP isNm (fun n => needF sSem (bindP (importsR g g []) fun l => bindP (restF bl df k l) fun l2 => tokP (isThe n.1.text) (fun _ => needF sDot (retP (mk k p n.1.text 0 l2))) failP)) failP)
def unitG : Par T1 := posP fun t => tokP (isWd6 sDefn) (fun _ => tailF g bl df 50 t.2.1) (tokP (isWd6 sImpl) (fun _ => tailF g bl df 51 t.2.1) (tailF g bl df 52 t.2.1))
def parseG : Par T1 := bindP (unitG g bl df) fun x => posP fun t => if isFin t = true then retP x else failP
end
def parseU (g : Nat) : Par T1 := parseG g (blockF g g) (defF g)
section
variable {g : Nat} {bl : Par T1} {df : Par (List T1)} (hb : Good2 bl) (hd : Good2 df)
theorem isThe_no (n : ByteArray) : isThe n noPT = false := rfl
theorem g2_imports : ∀ (f : Nat) (acc : List T1), Good2 (importsR g f acc)
 | 0, _ => g2_fail
 | f + 1, acc => g2_tok (tT_no _) (fun t => g2_tok rfl (fun n => g2_need (g2_bind (g2_names _ _) fun l => g2_need (g2_imports f _))) g2_fail)
   (g2_tok (tT_no _) (fun t => g2_bind (g2_names _ _) fun l => g2_need (g2_imports f _)) (g2_ret _))
include hb hd
theorem g2_rest {k : Nat} {l : List T1} : Good2 (restF bl df k l) := g2_if (g2_bind hd fun d => g2_need (g2_ret _)) (g2_bind hb fun b => g2_ret _)
theorem g2_tail {k : Nat} {p : Nat × Nat} : Good2 (tailF g bl df k p) := g2_need (g2_tok rfl (fun n => g2_need (g2_bind (g2_imports _ _) fun l => g2_bind (g2_rest hb hd) fun l2 => g2_tok (isThe_no _) (fun _ => g2_need (g2_ret _)) g2_fail)) g2_fail)
theorem g2_unit : Good2 (unitG g bl df) := g2_pos fun t => g2_tok (isWd6_no _) (fun _ => g2_tail hb hd) (g2_tok (isWd6_no _) (fun _ => g2_tail hb hd) (g2_tail hb hd))
end
end Go.Proofs.YtkemhmfdooghkaaGreatDoor.Un
namespace Go.Proofs.YtkemhmfdooghkaaGreatDoor.Ex
open Go.RowKit
open Tr (Nd Fo)
open Lx (Tk noTk Blk run_store_complexL TokAt)
open Fl
attribute [local go_sem] run_store_complexL
def PT.vals (t : PT) : List Value := t.1.vals t.2.1 t.2.2
def PT.val (t : PT) : Value := t.1.val t.2.1 t.2.2
def flatP (l : List PT) : List Value := l.flatMap PT.vals
structure Toks (w0 : World) (br : Nat) (A : Option Addr) (L : List PT) : Prop where
 reads : Reads w0 w0.heap.size 5 A L.length (flatP L)
 low : br < w0.heap.size
 far : ∀ ad, A = some ad → ad.block ≠ br
 len : L.length ≤ 20000
structure PInv (w0 w : World) (br : Nat) (A : Option Addr) (c : Nat) (L : List PT) (i : Nat) : Prop where
 row : Blk w br 153 #[.slice A L.length c, .int .i64 i]
 grown : w0.grownBy w (some br)
section
variable {w0 w w' : World} {br c i : Nat} {A : Option Addr} {L : List PT}
theorem grown_trans {a b d : World} {r : Option Nat} (h : a.grownBy b r) (h' : b.grownBy d r) : a.grownBy d r :=
 ⟨h'.os.trans h.os, h'.tape.trans h.tape, h'.output.trans h.output, Nat.le_trans h.size h'.size, fun k hk hr => (h'.block k (Nat.lt_of_lt_of_le hk h.size) hr).trans (h.block k hk hr)⟩
theorem grown_of_below {a b : World} (h : Below a.heap.size a b) (r : Option Nat) : a.grownBy b r := ⟨h.os, h.tape, h.output, h.size, fun k hk _ => h.block k hk⟩
theorem PInv.below (h : PInv w0 w br A c L i) (hb : Below w.heap.size w w') : PInv w0 w' br A c L i :=
 ⟨h.row.below hb h.row.lt, grown_trans h.grown (grown_of_below hb _)⟩
theorem PInv.drewN (h : PInv w0 w br A c L i) (n : Nat) : PInv w0 (w.drewN n) br A c L i := h.below (Lx.below_drewN (Below.refl _ _) n)
theorem flatP_len (l : List PT) : (flatP l).length = l.length * 5 := by
 induction l with
 | nil => rfl
 | cons t l ih => simp only [flatP, List.flatMap_cons, List.length_append, List.length_cons] at ih ⊢; rw [ih, show (PT.vals t).length = 5 from rfl]; omega
theorem flatP_at (l : List PT) (i j : Nat) (hi : i < l.length) (hj : j < 5) : (flatP l)[i * 5 + j]? = (PT.vals l[i])[j]? := by
 induction l generalizing i with
 | nil => simp at hi
 | cons t l ih =>
   cases i with
   | zero =>
     simp only [flatP, List.flatMap_cons, Nat.zero_mul, Nat.zero_add, List.getElem_cons_zero]
     rw [List.getElem?_append_left (by rw [show (PT.vals t).length = 5 from rfl]; omega)]
   | succ i =>
     simp only [flatP, List.flatMap_cons, List.getElem_cons_succ]
     rw [List.getElem?_append_right (by rw [show (PT.vals t).length = 5 from rfl]; omega), show (PT.vals t).length = 5 from rfl, show (i + 1) * 5 + j - 5 = i * 5 + j from by omega]
     exact ih i (by simpa using hi)
theorem PInv.tok (h : PInv w0 w br A c L i) (ht : Toks w0 br A L) {k : Nat} (hk : k < L.length) : ∃ g off, A = some ⟨g, off, none⟩ ∧ ∀ j, j < 5 → w.cell? ⟨g, off + k * 5 + j, none⟩ = (PT.vals L[k])[j]? := by
 obtain ⟨⟨g, off, sp⟩, e, hlt, hc⟩ := ht.reads.2 (by omega)
 have hl := flatP_len L
 have hget : ∀ m, m < L.length * 5 → ∃ u, (flatP L)[m]? = some u := fun m hm => ⟨(flatP L)[m]'(by omega), List.getElem?_eq_getElem (by omega)⟩
 have hs : sp = none := by
  obtain ⟨u, hu⟩ := hget 0 (by omega)
  have := World.cell?_spot (hc 0 u hu)
  simpa [Addr.add] using this
 subst hs
 refine ⟨g, off, e, fun j hj => ?_⟩
 rw [← flatP_at L k j hk hj]
 obtain ⟨u, hu⟩ := hget (k * 5 + j) (by omega)
 rw [hu, ← hc _ u hu]
 have ha : (⟨g, off, none⟩ : Addr).add (k * 5 + j) = ⟨g, off + k * 5 + j, none⟩ := by unfold Addr.add; split <;> simp_all [Nat.add_assoc]
 rw [ha]
 have hne := ht.far _ e
 exact World.cell?_of_block (h.grown.block g hlt (fun e => hne (by simpa using e)))
end
abbrev zeroB : Obj := .cells #[.int .u8 0, .complex .f64 0 0, .complex .f64 0 0, .string ⟨#[]⟩, .int .i64 0] 40
theorem now_any {w0 : World} {br c i : Nat} {A : Option Addr} {L : List PT} (ht : Toks w0 br A L) (hi : i ≤ 1000000) (w : World) (h : PInv w0 w br A c L i) :
 Calls Tryz.prog 143 #[.pointer (some ⟨br, 0, none⟩)] w fun e w' => e = .returned (PT.val (tk L i)) ∧ Below w.heap.size w w' := by
 have hlen := ht.len
 have x0 : (0 : Int) ≤ (i : Int) := by omega
 have hbA : Below w.heap.size w (w.alloc zeroB) := (Below.refl w.heap.size w).alloc (Nat.le_refl _) _
 have hP := h.below hbA
 have hB := Blk.new w 40 #[.int .u8 0, .complex .f64 0 0, .complex .f64 0 0, .string ⟨#[]⟩, .int .i64 0]
 have HBA := qh hbA
 have HB := qh hB
 have m0 := hP.row.cell 0
 have m1 := hP.row.cell 1
 simp only [List.getElem?_toArray, List.getElem?_cons_zero, List.getElem?_cons_succ] at m0 m1
 by_cases hlt : i < L.length
 ·obtain ⟨g, off, rfl, hc⟩ := hP.tok ht hlt
  have x1 : (i : Int) < (L.length : Int) := by omega
  have x2 : ¬ (i : Int) < 0 := by omega
  have HT := qh (show tk L i = L[i] by unfold tk; rw [List.getElem?_eq_getElem hlt]; rfl)
  obtain ⟨⟨⟨k, t, n⟩, ⟨p1, p2⟩, ⟨q1, q2⟩⟩, hL⟩ : ∃ t : PT, t = L[i] := ⟨_, rfl⟩
  rw [← hL] at hc HT
  have c0 := hc 0 (by omega)
  have c1 := hc 1 (by omega)
  have c2 := hc 2 (by omega)
  have c3 := hc 3 (by omega)
  have c4 := hc 4 (by omega)
  simp only [PT.vals, Lx.Tk.vals, Pl.C, List.getElem?_cons_zero, List.getElem?_cons_succ, Nat.add_zero] at c0 c1 c2 c3 c4
  have hIW : IntKind.i64.wrap (i : Int) = (i : Int) := IntWalk.i64_in _ (by omega)
  clear hc hL h ht hbA hB hP
  go_enter Tryz.func143, Tryz.ntmps143
  go_wp2
  generalize w.alloc zeroB = wa at *
  go_quiet (fail)
  go_wp2
  have m0' : (wa.drewN nq).cell? _ = _ := m0
  have m1' : (wa.drewN nq).cell? _ = _ := m1
  have c0' : (wa.drewN nq).cell? _ = _ := c0
  have c1' : (wa.drewN nq).cell? _ = _ := c1
  have c2' : (wa.drewN nq).cell? _ = _ := c2
  have c3' : (wa.drewN nq).cell? _ = _ := c3
  have c4' : (wa.drewN nq).cell? _ = _ := c4
  have HBA := qh (Lx.below_drewN HBA.out nq)
  have HB := qh (HB.out.drewN nq)
  clear m0 m1 c0 c1 c2 c3 c4
  generalize wa.drewN nq = wb at *
  go_still_tail 10, (by kernel_rfl)
  change wpList _ _ _ _ _ wb.drew
  have HBA := qh (Lx.below_drewN HBA.out 1)
  have HB := qh (HB.out.drewN 1)
  clear m0' m1' c0' c1' c2' c3' c4'
  rw [show wb.drewN 1 = wb.drew from rfl] at HBA HB
  generalize wb.drew = wc at *
  obtain ⟨z0, z1, z2, z3, z4, f0, f1, f2, f3, f4⟩ := HB.out.tok
  go_wp2
  refine bodyPost_ret (Lx.tok_ret1 rfl _ _ w.heap.size _ _ _ _ _ rfl (Lx.tok_stored HB.out _ _ _ _ _)) rfl ?_
  exact ⟨by rw [HT.out]; rfl, Lx.below_stored HBA.out (Nat.le_refl _) _ _ _ _ _⟩
 ·have x1 : ¬ (i : Int) < (L.length : Int) := by omega
  have HT := qh (show tk L i = noPT by unfold tk; rw [List.getElem?_eq_none (by omega)]; rfl)
  clear h ht hB hP hbA
  go_enter Tryz.func143, Tryz.ntmps143
  go_wp2
  generalize w.alloc zeroB = wa at *
  go_quiet (fail)
  have HBA := qh (Lx.below_drewN HBA.out nq)
  have HB := qh (HB.out.drewN nq)
  clear m0 m1
  generalize wa.drewN nq = wb at *
  obtain ⟨z0, z1, z2, z3, z4, f0, f1, f2, f3, f4⟩ := HB.out.tok
  go_wp2
  refine bodyPost_ret (Lx.tok_ret1 rfl _ _ w.heap.size _ _ _ _ _ rfl (Lx.tok_stored HB.out _ _ _ _ _)) rfl ?_
  exact ⟨by rw [HT.out]; simp [PT.val, noPT, noTk, Lx.Tk.val, Lx.Tk.vals, Pl.C, fl_0], Lx.below_stored HBA.out (Nat.le_refl _) _ _ _ _ _⟩
theorem val_form (t : PT) : ∃ (k : Nat) (p1 p2 q1 q2 : Nat) (s : ByteArray) (n : Int), t = (⟨k, s, n⟩, (p1, p2), (q1, q2)) ∧ PT.val t = .agg #[.int .u8 k, .complex .f64 (fl p1) (fl p2), .complex .f64 (fl q1) (fl q2), .string s, .int .i64 n] := by
 obtain ⟨⟨k, s, n⟩, ⟨p1, p2⟩, ⟨q1, q2⟩⟩ := t
 exact ⟨k, p1, p2, q1, q2, s, n, rfl, rfl⟩
theorem is_any {w0 : World} {br c i : Nat} {A : Option Addr} {L : List PT} (ht : Toks w0 br A L) (hi : i ≤ 1000000) (s : ByteArray) (w : World) (h : PInv w0 w br A c L i) :
 Calls Tryz.prog 162 #[.pointer (some ⟨br, 0, none⟩), .string s] w fun e w' => e = .returned (.bool (isT L i s)) ∧ Below w.heap.size w w' := by
 have N1 := qh (now_any ht hi w h)
 have HI := qh (show isT L i s = (isSW (tk L i) && decide ((tk L i).1.text = s)) from rfl)
 obtain ⟨k, p1, p2, q1, q2, t, n, e1, e2⟩ := val_form (tk L i)
 rw [e2] at N1
 rw [e1] at HI
 clear e1 e2 h ht hi
 generalize isT L i s = b at *
 go_enter Tryz.func162, Tryz.ntmps162
 go_wp2_with fail
 ((with_reducible refine N1.out.mono ?_); rintro e w1 ⟨rfl, hb⟩)
 have HB := qh hb
 have hl : t.toList = t.data.toList := ByteArray.toList_eq t
 have hl2 : s.toList = s.data.toList := ByteArray.toList_eq s
 have ht1 : (t.toList == s.toList) = decide (t = s) := by
  rw [hl, hl2, Bool.eq_iff_iff, beq_iff_eq, decide_eq_true_eq]
  exact ⟨fun h => Lx.bytes_ext h, fun h => by rw [h]⟩
 have k5 : ((k : Int) == 5) = decide (k = 5) := by rw [Bool.eq_iff_iff, beq_iff_eq, decide_eq_true_eq]; omega
 have k6 : ((k : Int) == 6) = decide (k = 6) := by rw [Bool.eq_iff_iff, beq_iff_eq, decide_eq_true_eq]; omega
 simp only [isSW] at HI
 clear hl hl2 hb N1
 generalize decide (t = s) = bt at *
 generalize decide (k = 5) = b5 at *
 generalize decide (k = 6) = b6 at *
 have HI2 := qh HI.out
 rcases b5 with _ | _ <;> rcases b6 with _ | _ <;> rcases bt with _ | _
 all_goals
  go_wp2
  go_ret
  exact ⟨ret_bool (by rw [HI2.out]; rfl), HB.out.alloc HB.out.size _⟩
end Go.Proofs.YtkemhmfdooghkaaGreatDoor.Ex
namespace Go.Proofs.YtkemhmfdooghkaaGreatDoor.Ex
open Go.RowKit
open Tr (Nd Fo RepS)
open Lx (Tk noTk Blk run_store_complexL TokAt)
open Fl
attribute [local go_sem] run_store_complexL
abbrev bad (k : Nat) : Ending := .panicked [{ v := .iface 151 (.int .i64 k), recovered := false }]
def TreeR (B : Nat) (w0 w : World) (br : Nat) (A : Option Addr) (c : Nat) (L : List PT) (r : Except Nat (T1 × Nat)) (e : Ending) (w' : World) : Prop := match r with
 | .ok (x, j) => ∃ b, e = .returned (.pointer (some ⟨b, 0, none⟩)) ∧ PInv w0 w' br A c L j ∧ w.grownBy w' (some br) ∧ RepS (fun y => B ≤ y) w' (.node x.1 x.2 .no) [.pointer (some ⟨b, 0, none⟩)]
 | .error k => e = bad k ∧ w.grownBy w' (some br)
section
variable {w0 w w' : World} {br c i i' : Nat} {A : Option Addr} {L : List PT}
theorem PInv.at_ (h : PInv w0 w br A c L i) : w.cell? ⟨br, 1, none⟩ = some (.int .i64 i) ∧ w.frozen? ⟨br, 1, none⟩ = false ∧ br < w.heap.size := ⟨h.row.cell 1, h.row.frozen 1, h.row.lt⟩
theorem PInv.set_ (h : PInv w0 w br A c L i) (j : Nat) : PInv w0 (w.setCell ⟨br, 1, none⟩ (.int .i64 j)) br A c L j ∧ w.grownBy (w.setCell ⟨br, 1, none⟩ (.int .i64 j)) (some br) := by
 have hg := Lx.grown_set w br 1 (.int .i64 j)
 refine ⟨⟨?_, grown_trans h.grown hg⟩, hg⟩
 have := h.row.set_ 1 (.int .i64 j)
 simpa using this
structure PG (w0 w w1 : World) (br : Nat) (A : Option Addr) (c : Nat) (L : List PT) (i : Nat) : Prop where
 inv : PInv w0 w1 br A c L i
 since : w.grownBy w1 (some br)
theorem PG.far {w1 : World} (h : PG w0 w w1 br A c L i) (hw : PInv w0 w br A c L i') {b : Nat} (hb : w.heap.size ≤ b) (o : Nat) (u : Value) : PG w0 w (w1.setCell ⟨b, o, none⟩ u) br A c L i := by
 have hl := hw.row.lt
 have hs := hw.grown.size
 have hg := Lx.grown_set w1 b o u
 have hk : ∀ (a : World), a.heap.size ≤ b → a.grownBy w1 (some br) → a.grownBy (w1.setCell ⟨b, o, none⟩ u) (some br) := fun a ha h =>
  ⟨h.os, h.tape, h.output, by rw [World.size_setCell]; exact h.size, fun k hk hr => (hg.block k (Nat.lt_of_lt_of_le hk h.size) (fun e => by injection e with e; omega)).trans (h.block k hk hr)⟩
 exact ⟨⟨h.1.row.far (show br ≠ b by omega) u, hk w0 (by omega) h.1.grown⟩, hk w hb h.2⟩
theorem PG.below {w1 w2 : World} (h : PG w0 w w1 br A c L i) (hb : Below w1.heap.size w1 w2) : PG w0 w w2 br A c L i := ⟨h.1.below hb, grown_trans h.2 (grown_of_below hb _)⟩
theorem PG.set_ {w1 : World} (h : PG w0 w w1 br A c L i) (j : Nat) : PG w0 w (w1.setCell ⟨br, 1, none⟩ (.int .i64 j)) br A c L j := ⟨(h.1.set_ j).1, grown_trans h.2 (h.1.set_ j).2⟩
theorem PG.store5 {w1 : World} (h : PG w0 w w1 br A c L i) (hw : PInv w0 w br A c L i') {b : Nat} (hb : w.heap.size ≤ b) (x0 x1 x2 x3 x4 : Value) :
 PG w0 w (((((w1.setCell ⟨b, 0, none⟩ x0).setCell ⟨b, 1, none⟩ x1).setCell ⟨b, 2, none⟩ x2).setCell ⟨b, 3, none⟩ x3).setCell ⟨b, 4, none⟩ x4) br A c L i :=
 ((((h.far hw hb _ _).far hw hb _ _).far hw hb _ _).far hw hb _ _).far hw hb _ _
end
theorem isT_lt {L : List PT} {i : Nat} {s : ByteArray} (h : isT L i s = true) : i < L.length := by
 rcases Nat.lt_or_ge i L.length with h1 | h1
 ·exact h1
 ·unfold isT tk at h
  rw [List.getElem?_eq_none h1] at h
  simp [isSW, noPT, noTk] at h
theorem eat_no {w0 : World} {br c i : Nat} {A : Option Addr} {L : List PT} (ht : Toks w0 br A L) (hi : i ≤ 900000) (s : ByteArray) (w : World) (h : PInv w0 w br A c L i) (hT : isT L i s = false) :
 Calls Tryz.prog 144 #[.pointer (some ⟨br, 0, none⟩), .string s] w fun e w' => e = .returned (.bool false) ∧ PInv w0 w' br A c L i ∧ w.grownBy w' (some br) := by
 have n1 := is_any ht (by omega) s w h
 rw [hT] at n1
 have N1 := qh n1
 have H := qh h
 clear h ht n1
 go_enter Tryz.func144, Tryz.ntmps144
 go_wp2_with fail
 ((with_reducible refine N1.out.mono ?_); rintro e w1 ⟨rfl, hb⟩)
 have HP := qh (H.out.below hb)
 have HG := qh (grown_of_below hb (some br))
 clear hb N1 H
 go_wp2
 go_ret
 exact ⟨rfl, HP.out, HG.out⟩
theorem eat_yes {w0 : World} {br c i : Nat} {A : Option Addr} {L : List PT} (ht : Toks w0 br A L) (hi : i ≤ 900000) (s : ByteArray) (w : World) (h : PInv w0 w br A c L i) (hT : isT L i s = true) :
 Calls Tryz.prog 144 #[.pointer (some ⟨br, 0, none⟩), .string s] w fun e w' => e = .returned (.bool true) ∧ PInv w0 w' br A c L (i + 1) ∧ w.grownBy w' (some br) := by
 have n1 := is_any ht (by omega) s w h
 rw [hT] at n1
 have N1 := qh n1
 have H := qh h
 clear h ht n1
 go_enter Tryz.func144, Tryz.ntmps144
 go_wp2_with fail
 ((with_reducible refine N1.out.mono ?_); rintro e w1 ⟨rfl, hb⟩)
 have HP := qh (H.out.below hb)
 have HG := qh (grown_of_below hb (some br))
 clear hb N1 H
 obtain ⟨m1, f1, hlt⟩ := HP.out.at_
 have x0 : (0 : Int) ≤ (i : Int) := by omega
 go_wp2
 go_ret
 obtain ⟨hp, hg⟩ := HP.out.set_ (i + 1)
 exact ⟨rfl, hp, grown_trans HG.out hg⟩
theorem need_ok {w0 : World} {br c i : Nat} {A : Option Addr} {L : List PT} (ht : Toks w0 br A L) (hi : i ≤ 900000) (s : ByteArray) (w : World) (h : PInv w0 w br A c L i) (hT : isT L i s = true) :
 Calls Tryz.prog 159 #[.pointer (some ⟨br, 0, none⟩), .string s] w fun e w' => e = .returned (.tuple #[]) ∧ PInv w0 w' br A c L (i + 1) ∧ w.grownBy w' (some br) := by
 have N1 := qh (eat_yes ht hi s w h hT)
 clear h ht
 go_enter Tryz.func159, Tryz.ntmps159
 go_wp2_with fail
 ((with_reducible refine N1.out.mono ?_); rintro e w1 ⟨rfl, hp, hg⟩)
 have HP := qh hp
 have HG := qh hg
 clear hp hg
 go_wp2
 go_end0
 exact ⟨rfl, HP.out, HG.out⟩
theorem need_no {w0 : World} {br c i : Nat} {A : Option Addr} {L : List PT} (ht : Toks w0 br A L) (hi : i ≤ 900000) (s : ByteArray) (w : World) (h : PInv w0 w br A c L i) (hT : isT L i s = false) :
 Calls Tryz.prog 159 #[.pointer (some ⟨br, 0, none⟩), .string s] w fun e w' => e = bad i ∧ w.grownBy w' (some br) := by
 have N1 := qh (eat_no ht hi s w h hT)
 clear h ht
 go_enter Tryz.func159, Tryz.ntmps159
 go_wp2_with fail
 ((with_reducible refine N1.out.mono ?_); rintro e w1 ⟨rfl, hp, hg⟩)
 obtain ⟨m1, f1, hlt⟩ := hp.at_
 have HG := qh hg
 clear hp hg
 go_wp2
 exact ⟨rfl, rfl, HG.out⟩
theorem name_ok {w0 : World} {br c i : Nat} {A : Option Addr} {L : List PT} (ht : Toks w0 br A L) (hi : i ≤ 900000) (w : World) (h : PInv w0 w br A c L i) (hT : (tk L i).1.kind = 1) :
 Calls Tryz.prog 170 #[.pointer (some ⟨br, 0, none⟩)] w fun e w' => e = .returned (PT.val (tk L i)) ∧ PInv w0 w' br A c L (i + 1) ∧ w.grownBy w' (some br) := by
 have hbA : Below w.heap.size w (w.alloc zeroB) := (Below.refl w.heap.size w).alloc (Nat.le_refl _) _
 have N1 := qh (now_any ht (by omega) _ (h.below hbA))
 have H := qh h
 have HBA := qh hbA
 have hB := Blk.new w 40 #[.int .u8 0, .complex .f64 0 0, .complex .f64 0 0, .string ⟨#[]⟩, .int .i64 0]
 have HB := qh hB
 obtain ⟨k, p1, p2, q1, q2, t, n, e1, e2⟩ := val_form (tk L i)
 rw [e1] at hT
 simp only at hT
 subst hT
 rw [e2] at N1 ⊢
 have hal : w.heap.size < (w.alloc zeroB).heap.size := by rw [World.size_alloc]; exact Nat.lt_succ_self _
 clear hbA hB h e1 e2 ht
 go_enter Tryz.func170, Tryz.ntmps170
 go_wp2_with fail
 ((with_reducible refine N1.out.mono ?_); rintro e w1 ⟨rfl, hb⟩)
 have hp := (H.out.below HBA.out).below hb
 have hbk := HB.out.below hb hal
 have hbl : Below w.heap.size w w1 := HBA.out.trans (hb.mono (Nat.le_of_lt hal))
 obtain ⟨m1, f1, hlt⟩ := hp.at_
 obtain ⟨z0, z1, z2, z3, z4, g0, g1, g2, g3, g4⟩ := hbk.tok
 have HP := qh hp
 have HBK := qh hbk
 have HBL := qh hbl
 have hbr := H.out.row.lt
 have x0 : (0 : Int) ≤ (i : Int) := by omega
 have hlt2 := hbk.lt
 clear hp hbk hbl hb HB HBA N1
 go_wp2
 have hPG := ((show PG w0 w w1 br A c L i from ⟨HP.out, grown_of_below HBL.out _⟩).set_ (i + 1))
 have hPG2 := (hPG.store5 H.out (Nat.le_refl _) (.int .u8 1) (.complex .f64 (fl p1) (fl p2)) (.complex .f64 (fl q1) (fl q2)) (.string t) (.int .i64 n)).below ((Below.refl _ _).alloc (Nat.le_refl _) (.cells #[.int .u8 1, .complex .f64 (fl p1) (fl p2), .complex .f64 (fl q1) (fl q2), .string t, .int .i64 n] 40))
 refine bodyPost_ret (Lx.tok_ret1 rfl _ _ w.heap.size _ _ _ _ _ rfl ((Lx.tok_stored (HBK.out.far (p := ⟨br, 1, none⟩) (Nat.ne_of_gt hbr) _) _ _ _ _ _).alloc _)) rfl ?_
 exact ⟨rfl, hPG2.1, hPG2.2⟩
theorem name_no {w0 : World} {br c i : Nat} {A : Option Addr} {L : List PT} (ht : Toks w0 br A L) (hi : i ≤ 900000) (w : World) (h : PInv w0 w br A c L i) (hT : ¬ (tk L i).1.kind = 1) :
 Calls Tryz.prog 170 #[.pointer (some ⟨br, 0, none⟩)] w fun e w' => e = bad i ∧ w.grownBy w' (some br) := by
 have hbA : Below w.heap.size w (w.alloc zeroB) := (Below.refl w.heap.size w).alloc (Nat.le_refl _) _
 have N1 := qh (now_any ht (by omega) _ (h.below hbA))
 have H := qh h
 have HBA := qh hbA
 obtain ⟨k, p1, p2, q1, q2, t, n, e1, e2⟩ := val_form (tk L i)
 rw [e1] at hT
 simp only at hT
 rw [e2] at N1
 have k1 : ((k : Int) == 1) = false := by simp only [beq_eq_false_iff_ne, ne_eq]; omega
 have k2 : ((k : Int) != 1) = true := by simp [bne, k1]
 have hal : w.heap.size < (w.alloc zeroB).heap.size := by rw [World.size_alloc]; exact Nat.lt_succ_self _
 clear hbA h e1 e2 ht hT
 go_enter Tryz.func170, Tryz.ntmps170
 go_wp2_with fail
 ((with_reducible refine N1.out.mono ?_); rintro e w1 ⟨rfl, hb⟩)
 have hp := (H.out.below HBA.out).below hb
 have hbl : Below w.heap.size w w1 := HBA.out.trans (hb.mono (Nat.le_of_lt hal))
 obtain ⟨m1, f1, hlt⟩ := hp.at_
 have HBL := qh hbl
 clear hp hbl hb HBA N1 H
 go_wp2
 exact ⟨rfl, rfl, grown_of_below (HBL.out.alloc HBL.out.size _) _⟩
end Go.Proofs.YtkemhmfdooghkaaGreatDoor.Ex
namespace Go.Proofs.YtkemhmfdooghkaaGreatDoor.Ex
open Go.RowKit
open Tr (Nd Fo RepS RepN)
open Lx (Tk noTk Blk run_store_complexL TokAt)
open Fl
attribute [local go_sem] run_store_complexL
theorem run_field1 (v0 v1 v2 v3 v4 : Value) (w : World) : (Instr.field 40 (.agg #[v0, v1, v2, v3, v4]) 1).run Tryz.prog w = .ok v1 w := by kernel_rfl
theorem run_field3 (v0 v1 v2 v3 v4 : Value) (w : World) : (Instr.field 40 (.agg #[v0, v1, v2, v3, v4]) 3).run Tryz.prog w = .ok v3 w := by kernel_rfl
attribute [local go_sem] run_field1 run_field3
section
variable {w0 w w1 w2 : World} {br c i j : Nat} {A : Option Addr} {L : List PT}
theorem reads_lit (w : World) (cs : Array Value) (t : TypeId) : Reads (w.alloc (.cells cs t)) (w.alloc (.cells cs t)).heap.size 1 (some ⟨w.heap.size, 0, none⟩) cs.size cs.toList := by
 refine ⟨by simp, fun _ => ⟨_, rfl, by rw [World.size_alloc]; exact Nat.lt_succ_self _, ?_⟩⟩
 exact World.news_of_block (heap_alloc_new w _)
theorem repN_of {S : Nat → Prop} : ∀ {f : Fo} {vs : List Value}, RepS S w f vs → RepN S w f vs
 | .no, vs, h => by unfold RepS at h; unfold RepN; exact h
 | .node d k r, vs, h => by
   unfold RepS at h
   obtain ⟨b, A, c, ks, vs', rfl, h2, h3, h4, h5, h6, h7⟩ := h
   unfold RepN
   refine ⟨_, vs', rfl, .inr ?_, repN_of h7⟩
   unfold RepS
   exact ⟨b, A, c, ks, [], rfl, h2, h3, h4, h5, h6, by unfold RepS; rfl⟩
theorem repS_grown {B : Nat} {f : Fo} {vs : List Value} (h : RepS (fun x => B ≤ x) w f vs) (hg : w.grownBy w1 (some br)) (hbr : br < B) : RepS (fun x => B ≤ x) w1 f vs :=
 h.keep hg.size (fun x hx hl => hg.block x hl (fun e => by injection e with e; omega)) (fun x h _ => h)
theorem repS_cons {S : Nat → Prop} {d : Nd} {k : Fo} {v : Value} {f : Fo} {vs : List Value} (h1 : RepS S w (.node d k .no) [v]) (h2 : RepS S w f vs) : RepS S w (.node d k f) (v :: vs) := by
 unfold RepS at h1 ⊢
 obtain ⟨b, A, c, ks, vs', e, g2, g3, g4, g5, g6, g7⟩ := h1
 unfold RepS at g7
 subst g7
 injection e with e
 exact ⟨b, A, c, ks, vs, by rw [e], g2, g3, g4, g5, g6, h2⟩
theorem PG.trans (h : PG w0 w w1 br A c L i) (h2 : PInv w0 w2 br A c L j ∧ w1.grownBy w2 (some br)) : PG w0 w w2 br A c L j := ⟨h2.1, grown_trans h.2 h2.2⟩
theorem PG.start (h : PInv w0 w br A c L i) : PG w0 w w br A c L i := ⟨h, ⟨rfl, rfl, rfl, Nat.le_refl _, fun _ _ _ => rfl⟩⟩
theorem PG.alloc (h : PG w0 w w1 br A c L i) (o : Obj) : PG w0 w (w1.alloc o) br A c L i := h.below ((Below.refl _ _).alloc (Nat.le_refl _) _)
end
theorem new_at {B : Nat} {w : World} (hw : B ≤ w.heap.size) (kI : Int) (kind : Nat) (hkI : kI = (kind : Int)) (p1 p2 : Nat) (name : ByteArray) (n : Int) (A' : Option Addr) (c' m : Nat) (vs : List Value) (f : Fo) (hm : vs.length = m) (hv : m ≤ 1000000)
 (hA : Reads w w.heap.size 1 A' m vs) (hk : RepN (fun x => B ≤ x) w f vs) :
 Calls Tryz.prog 33 #[.int .u8 kI, .complex .f64 (fl p1) (fl p2), .string name, .int .i64 n, .slice A' m c'] w fun e w' =>
  ∃ b, e = .returned (.pointer (some ⟨b, 0, none⟩)) ∧ Below w.heap.size w w' ∧ RepS (fun x => B ≤ x) w' (.node ⟨kind, (p1, p2), name, n⟩ f .no) [.pointer (some ⟨b, 0, none⟩)] := by
 subst hm hkI
 refine (Tr.new_any _ kind p1 p2 name n A' c' vs f w hv hA hk).mono ?_
 rintro e w' ⟨u, rfl, hb, hr⟩
 obtain ⟨b, _, _, _, rfl, _⟩ := hr.rep.one
 exact ⟨b, rfl, hb, hr.more fun x hx _ => by rcases hx with hx | hx <;> omega⟩
theorem dot_any {w0 : World} {br c i : Nat} {A : Option Addr} {L : List PT} (ht : Toks w0 br A L) (hi : i ≤ 800000) (x : T1) (bx : Nat) (w : World) (h : PInv w0 w br A c L i) {B : Nat} (hBr : br < B) (hBw : B ≤ w.heap.size)
 (hx : RepS (fun y => B ≤ y) w (.node x.1 x.2 .no) [.pointer (some ⟨bx, 0, none⟩)]) (hT : isT L i sDot = true) :
 Calls Tryz.prog 168 #[.pointer (some ⟨br, 0, none⟩), .pointer (some ⟨bx, 0, none⟩)] w (TreeR B w0 w br A c L (dotP L x i)) := by
 have n1 := now_any ht (by omega) w h
 obtain ⟨k, p1, p2, q1, q2, t, n, e1, e2⟩ := val_form (tk L i)
 have hp : pos L i = (p1, p2) := by unfold pos; rw [e1]
 rw [e2] at n1
 have N1 := qh n1
 have ND := qh (fun w h => need_ok ht (i := i) (by omega) (c := c) sDot w h hT)
 have H := qh (PG.start h)
 have HX := qh hx
 clear n1 e1 e2 h hx
 by_cases hk : (tk L (i + 1)).1.kind = 1
 ·obtain ⟨k2, a1, a2, b1, b2, t2, n2, e3, e4⟩ := val_form (tk L (i + 1))
  have HS := qh (show dotP L x i = .ok ((⟨2, (p1, p2), t2, 0⟩, .node x.1 x.2 .no), i + 1 + 1) from by
   unfold dotP need nameP
   rw [if_pos hT]
   dsimp only
   rw [if_pos hk]
   dsimp only
   rw [e3, hp]
   rfl)
  have NM := qh (fun w h => name_ok ht (i := i + 1) (by omega) (c := c) w h hk)
  rw [e4] at NM
  clear ht hk hp hT e3 e4
  go_enter Tryz.func168, Tryz.ntmps168
  go_wp2_with fail
  ((with_reducible refine N1.out.mono ?_); rintro e w1 ⟨rfl, hb⟩)
  have H := qh (H.out.below hb)
  clear hb
  go_wp2_with fail
  ((with_reducible refine (ND.out _ H.out.1).mono ?_); rintro e w2 ⟨rfl, hb⟩)
  have H := qh (H.out.trans hb)
  clear hb
  go_wp2_with fail
  ((with_reducible refine (NM.out _ H.out.1).mono ?_); rintro e w3 ⟨rfl, hb⟩)
  have H := qh (H.out.trans hb)
  have HX3 := qh (repS_grown HX.out H.out.2 hBr)
  have NW := qh (new_at (B := B) (w := w3.alloc (.cells #[.pointer (some ⟨bx, 0, none⟩)] 31)) (by have := H.out.2.size; rw [World.size_alloc]; omega) 2 2 rfl p1 p2 t2 0 (some ⟨w3.heap.size, 0, none⟩) 1 1 [.pointer (some ⟨bx, 0, none⟩)] (.node x.1 x.2 .no) rfl (by omega) (reads_lit w3 #[.pointer (some ⟨bx, 0, none⟩)] _) (repN_of (HX3.out.below ((Below.refl _ _).alloc (Nat.le_refl _) _))))
  clear hb
  go_wp2_with fail
  ((with_reducible refine NW.out.mono ?_); rintro e w4 ⟨b, rfl, hb, hr⟩)
  have H := qh ((H.out.alloc _).below hb)
  have HR := qh hr
  clear hb hr
  go_wp2
  go_ret
  rw [HS.out]
  exact ⟨b, rfl, H.out.1, H.out.2, HR.out⟩
 ·have HS := qh (show dotP L x i = .error (i + 1) by
   unfold dotP need nameP
   rw [if_pos hT]
   dsimp only
   rw [if_neg hk])
  have NM := qh (fun w h => name_no ht (i := i + 1) (by omega) (c := c) w h hk)
  clear ht hk hp hT
  go_enter Tryz.func168, Tryz.ntmps168
  go_wp2_with fail
  ((with_reducible refine N1.out.mono ?_); rintro e w1 ⟨rfl, hb⟩)
  have H := qh (H.out.below hb)
  clear hb
  go_wp2_with fail
  ((with_reducible refine (ND.out _ H.out.1).mono ?_); rintro e w2 ⟨rfl, hb⟩)
  have H := qh (H.out.trans hb)
  clear hb
  go_wp2_with fail
  ((with_reducible refine (NM.out _ H.out.1).mono ?_); rintro e w3 ⟨rfl, hb⟩)
  have H3 := qh (grown_trans H.out.2 hb)
  clear hb
  go_wp2
  refine ⟨rfl, ?_⟩
  rw [HS.out]
  exact ⟨rfl, H3.out⟩
end Go.Proofs.YtkemhmfdooghkaaGreatDoor.Ex
namespace Go.Proofs.YtkemhmfdooghkaaGreatDoor.Ex
open Go.RowKit
open Tr (Nd Fo RepS RepN)
open Lx (Tk noTk Blk run_store_complexL TokAt)
open Fl
attribute [local go_sem] run_store_complexL run_field1 run_field3
def atW (w : World) (br : Nat) : Nat := match w.cell? ⟨br, 1, none⟩ with
 | some (.int _ n) => n.toNat
 | _ => 0
theorem PInv.atW {w0 w : World} {br c i : Nat} {A : Option Addr} {L : List PT} (h : PInv w0 w br A c L i) : atW w br = i := by
 unfold Ex.atW
 rw [h.at_.1]
 simp
theorem dotsP_succ (L : List PT) (f : Nat) (x : T1) (i : Nat) : dotsP L (f + 1) x i = if isT L i sDot = true then (match dotP L x i with
 | .error k => .error k
 | .ok (y, j) => dotsP L f y j) else .ok (x, i) := rfl
theorem nameP_le {L : List PT} {i j : Nat} {t : PT} (h : nameP L i = .ok (t, j)) : j = i + 1 ∧ t = tk L i ∧ (tk L i).1.kind = 1 := by
 unfold nameP at h
 split at h
 ·injection h with h; injection h with h1 h2; exact ⟨h2.symm, h1.symm, by assumption⟩
 ·cases h
theorem need_le {L : List PT} {i j : Nat} {s : ByteArray} (h : need L i s = .ok j) : j = i + 1 ∧ isT L i s = true := by
 unfold need at h
 split at h
 ·injection h with h; exact ⟨h.symm, by assumption⟩
 ·cases h
theorem dotP_le {L : List PT} {i j : Nat} {x y : T1} (h : dotP L x i = .ok (y, j)) : j = i + 2 := by
 unfold dotP at h
 split at h
 ·cases h
 ·rename_i j1 h1
  split at h
  ·cases h
  ·rename_i t j2 h2
   injection h with h; injection h with h3 h4
   have := need_le h1
   have := nameP_le h2
   omega
theorem qual_any {w0 : World} {br c i : Nat} {A : Option Addr} {L : List PT} (ht : Toks w0 br A L) (hi : i ≤ 100000) (w : World) (h : PInv w0 w br A c L i) :
 Calls Tryz.prog 167 #[.pointer (some ⟨br, 0, none⟩)] w (TreeR w.heap.size w0 w br A c L (qualP L i)) := by
 have hbr0 := h.row.lt
 have hlen := ht.len
 have H := qh (PG.start h)
 by_cases hk : (tk L i).1.kind = 1
 ·obtain ⟨k2, a1, a2, b1, b2, t2, n2, e3, e4⟩ := val_form (tk L i)
  have nm := name_ok ht (by omega) w h hk
  rw [e4] at nm
  have NM := qh nm
  have HS := qh (show qualP L i = dotsP L (L.length + 1) (⟨1, (a1, a2), t2, 0⟩, .no) (i + 1) from by
   unfold qualP nameP
   rw [if_pos hk]
   dsimp only
   rw [e3]
   rfl)
  have IS := qh (fun j (hj : j ≤ 200000) w h => is_any ht (i := j) (by omega) (c := c) sDot w h)
  have DT := qh (fun j (hj : j ≤ 200000) x bx W h hW hx hT => dot_any ht (i := j) (by omega) (c := c) x bx W h hbr0 (B := w.heap.size) hW hx hT)
  clear nm hk e3 e4 h ht
  go_enter Tryz.func167, Tryz.ntmps167
  go_wp2_with fail
  ((with_reducible refine (NM.out).mono ?_); rintro e w1 ⟨rfl, hb⟩)
  have H := qh (H.out.trans hb)
  clear hb
  have NW := qh (fun W (hW : w.heap.size ≤ W.heap.size) => new_at (B := w.heap.size) (w := W) hW 1 1 rfl a1 a2 t2 0 none 0 0 [] .no rfl (by omega) Reads.none_ (by unfold RepN; rfl))
  have hz := Nat.le_trans H.out.2.size (((Below.refl w1.heap.size w1).alloc (Nat.le_refl _) (.cells #[.int .u8 k2, .complex .f64 (fl a1) (fl a2), .complex .f64 (fl b1) (fl b2), .string t2, .int .i64 n2] 40)).size)
  go_wp2_with fail
  ((with_reducible refine (NW.out _ hz).mono ?_); rintro e w2 ⟨bx, rfl, hb, hr⟩)
  have H := qh ((H.out.alloc _).below hb)
  have HR := qh hr
  clear hb hr hz NW
  go_wp2_with fail
  go_loopw [4] (fun xv wr => ∃ (x : T1) (bx j f : Nat), xv = .pointer (some ⟨bx, 0, none⟩) ∧ j ≤ i + 1 + L.length + 2 ∧ L.length < j + f ∧ Hid (PG w0 w wr br A c L j) ∧ Hid (RepS (fun y => w.heap.size ≤ y) wr (.node x.1 x.2 .no) [.pointer (some ⟨bx, 0, none⟩)]) ∧ Hid (qualP L i = dotsP L f x j)) (fun _ wr => L.length + 1 - atW wr br)
  case atStart => exact ⟨_, bx, i + 1, L.length + 1, rfl, by omega, by omega, H, HR, HS⟩
  case round =>
   clear H HR HS NM
   obtain ⟨x, bx, j, f, rfl, hj, hf, H, HR, HS⟩ := hrel
   have HW := qh H.out.1.atW
   cases hT : isT L j sDot
   ·have i1 := IS.out j (by omega) _ H.out.1
    rw [hT] at i1
    have I1 := qh i1
    have HS2 := qh (show qualP L i = .ok (x, j) by
     rw [HS.out]
     cases f with
     | zero => rfl
     | succ f => unfold dotsP; rw [if_neg (by rw [hT]; simp)])
    clear i1
    go_wp2_with fail
    ((with_reducible refine I1.out.mono ?_); rintro e w3 ⟨rfl, hb⟩)
    have H := qh (H.out.below hb)
    have HR := qh (HR.out.below hb)
    clear hb
    go_wp2
    go_ret
    rw [HS2.out]
    exact ⟨bx, rfl, H.out.1, H.out.2, HR.out⟩
   ·have hjl := isT_lt hT
    have i1 := IS.out j (by omega) _ H.out.1
    rw [hT] at i1
    have I1 := qh i1
    obtain ⟨f, rfl⟩ : ∃ f', f = f' + 1 := ⟨f - 1, by omega⟩
    have HS2 := qh (show qualP L i = (match dotP L x j with
     | .error k => .error k
     | .ok (y, j) => dotsP L f y j) by rw [HS.out, dotsP_succ, if_pos hT])
    clear i1
    go_wp2_with fail
    ((with_reducible refine I1.out.mono ?_); rintro e w3 ⟨rfl, hb⟩)
    have H := qh (H.out.below hb)
    have HR := qh (HR.out.below hb)
    clear hb
    have d1 := DT.out j (by omega) x bx w3 H.out.1 H.out.2.size HR.out hT
    cases hd : dotP L x j with
    | error k =>
      rw [hd] at d1 HS2
      have D1 := qh d1
      clear d1
      go_wp2_with fail
      ((with_reducible refine D1.out.mono ?_); rintro e w4 ⟨rfl, hb⟩)
      have H3 := qh (grown_trans H.out.2 hb)
      clear hb
      go_wp2
      refine ⟨rfl, ?_⟩
      rw [HS2.out]
      exact ⟨rfl, H3.out⟩
    | ok r =>
      obtain ⟨y, j2⟩ := r
      rw [hd] at d1 HS2
      have hj2 := dotP_le hd
      have D1 := qh d1
      clear d1 hd
      go_wp2_with fail
      ((with_reducible refine D1.out.mono ?_); rintro e w4 ⟨by_, rfl, hp, hg, hr⟩)
      have H2 := qh (H.out.trans ⟨hp, hg⟩)
      have HR := qh hr
      clear hp hg hr
      go_wp2
      go_roundw
      case rel => exact ⟨y, by_, j2, f, rfl, by omega, by omega, H2, HR, HS2⟩
      case measure => rw [H2.out.1.atW, HW.out]; omega
 ·have HS := qh (show qualP L i = .error i by
   unfold qualP nameP
   rw [if_neg hk])
  have NM := qh (name_no ht (by omega) w h hk)
  clear hk h ht
  go_enter Tryz.func167, Tryz.ntmps167
  go_wp2_with fail
  ((with_reducible refine (NM.out).mono ?_); rintro e w1 ⟨rfl, hb⟩)
  have H3 := qh (grown_trans H.out.2 hb)
  clear hb
  go_wp2
  refine ⟨rfl, ?_⟩
  rw [HS.out]
  exact ⟨rfl, H3.out⟩
end Go.Proofs.YtkemhmfdooghkaaGreatDoor.Ex
