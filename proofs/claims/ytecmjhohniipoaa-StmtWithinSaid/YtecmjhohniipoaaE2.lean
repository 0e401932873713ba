/- The row of tokens in memory; the walks of now, is, eat, need, name. -/
import Derived.Test.YtecmjhohniipoaaE1
import Derived.Deep.QuietTactic
import Derived.BigQuiet
import Derived.Outline
import Derived.StillTailTactics
set_option linter.unusedSimpArgs false
set_option linter.unusedVariables false
namespace Go.Proofs.Ytecmjhohniipoaa.Ex
open Go.RowKit
open Tr (Nd Fo)
open Lx (Tk noTk Blk run_store_complexL TokAt)
open Fl
attribute [local go_sem] run_store_complexL

def PT.vals (t : PT) : List Value := t.1.vals t.2.1 t.2.2
def PT.val (t : PT) : Value := t.1.val t.2.1 t.2.2
def flatP (l : List PT) : List Value := l.flatMap PT.vals
/-- The tokens lie in memory, beside the row's own block. -/
structure Toks (w0 : World) (br : Nat) (A : Option Addr) (L : List PT) : Prop where
  reads : Reads w0 w0.heap.size 5 A L.length (flatP L)
  low : br < w0.heap.size
  far : ∀ ad, A = some ad → ad.block ≠ br
  len : L.length ≤ 20000
/-- The row stands at the i-th token; nothing that lay in w0 is turned but for it. -/
structure PInv (w0 w : World) (br : Nat) (A : Option Addr) (c : Nat) (L : List PT) (i : Nat) : Prop where
  row : Blk w br 102 #[.slice A L.length c, .int .i64 i]
  grown : w0.grownBy w (some br)
section
variable {w0 w w' : World} {br c i : Nat} {A : Option Addr} {L : List PT}
theorem grown_trans {a b d : World} {r : Option Nat} (h : a.grownBy b r) (h' : b.grownBy d r) : a.grownBy d r :=
  ⟨h'.os.trans h.os, h'.tape.trans h.tape, h'.output.trans h.output, Nat.le_trans h.size h'.size, fun k hk hr => (h'.block k (Nat.lt_of_lt_of_le hk h.size) hr).trans (h.block k hk hr)⟩
theorem grown_of_below {a b : World} (h : Below a.heap.size a b) (r : Option Nat) : a.grownBy b r := ⟨h.os, h.tape, h.output, h.size, fun k hk _ => h.block k hk⟩
theorem PInv.below (h : PInv w0 w br A c L i) (hb : Below w.heap.size w w') : PInv w0 w' br A c L i :=
  ⟨h.row.below hb h.row.lt, grown_trans h.grown (grown_of_below hb _)⟩
theorem PInv.drewN (h : PInv w0 w br A c L i) (n : Nat) : PInv w0 (w.drewN n) br A c L i := h.below (Lx.below_drewN (Below.refl _ _) n)
theorem flatP_len (l : List PT) : (flatP l).length = l.length * 5 := by
  induction l with
  | nil => rfl
  | cons t l ih => simp only [flatP, List.flatMap_cons, List.length_append, List.length_cons] at ih ⊢; rw [ih, show (PT.vals t).length = 5 from rfl]; omega
theorem flatP_at (l : List PT) (i j : Nat) (hi : i < l.length) (hj : j < 5) : (flatP l)[i * 5 + j]? = (PT.vals l[i])[j]? := by
  induction l generalizing i with
  | nil => simp at hi
  | cons t l ih =>
    cases i with
    | zero =>
      simp only [flatP, List.flatMap_cons, Nat.zero_mul, Nat.zero_add, List.getElem_cons_zero]
      rw [List.getElem?_append_left (by rw [show (PT.vals t).length = 5 from rfl]; omega)]
    | succ i =>
      simp only [flatP, List.flatMap_cons, List.getElem_cons_succ]
      rw [List.getElem?_append_right (by rw [show (PT.vals t).length = 5 from rfl]; omega), show (PT.vals t).length = 5 from rfl, show (i + 1) * 5 + j - 5 = i * 5 + j from by omega]
      exact ih i (by simpa using hi)
/-- The i-th token's five cells. -/
theorem PInv.tok (h : PInv w0 w br A c L i) (ht : Toks w0 br A L) {k : Nat} (hk : k < L.length) : ∃ g off, A = some ⟨g, off, none⟩ ∧ ∀ j, j < 5 → w.cell? ⟨g, off + k * 5 + j, none⟩ = (PT.vals L[k])[j]? := by
  obtain ⟨⟨g, off, sp⟩, e, hlt, hc⟩ := ht.reads.2 (by omega)
  have hl := flatP_len L
  have hget : ∀ m, m < L.length * 5 → ∃ u, (flatP L)[m]? = some u := fun m hm => ⟨(flatP L)[m]'(by omega), List.getElem?_eq_getElem (by omega)⟩
  have hs : sp = none := by
    obtain ⟨u, hu⟩ := hget 0 (by omega)
    have := World.cell?_spot (hc 0 u hu)
    simpa [Addr.add] using this
  subst hs
  refine ⟨g, off, e, fun j hj => ?_⟩
  rw [← flatP_at L k j hk hj]
  obtain ⟨u, hu⟩ := hget (k * 5 + j) (by omega)
  rw [hu, ← hc _ u hu]
  have ha : (⟨g, off, none⟩ : Addr).add (k * 5 + j) = ⟨g, off + k * 5 + j, none⟩ := by unfold Addr.add; split <;> simp_all [Nat.add_assoc]
  rw [ha]
  have hne := ht.far _ e
  exact World.cell?_of_block (h.grown.block g hlt (fun e => hne (by simpa using e)))
end

/-- The zero token's block. -/
abbrev zeroB : Obj := .cells #[.int .u8 0, .complex .f64 0 0, .complex .f64 0 0, .string ⟨#[]⟩, .int .i64 0] 68
set_option maxRecDepth 100000 in
set_option maxHeartbeats 1600000 in
theorem now_any {w0 : World} {br c i : Nat} {A : Option Addr} {L : List PT} (ht : Toks w0 br A L) (hi : i ≤ 1000000) (w : World) (h : PInv w0 w br A c L i) :
    Calls Try.prog 75 #[.pointer (some ⟨br, 0, none⟩)] w fun e w' => e = .returned (PT.val (tk L i)) ∧ Below w.heap.size w w' := by
  have hlen := ht.len
  have x0 : (0 : Int) ≤ (i : Int) := by omega
  have hbA : Below w.heap.size w (w.alloc zeroB) := (Below.refl w.heap.size w).alloc (Nat.le_refl _) _
  have hP := h.below hbA
  have hB := Blk.new w 68 #[.int .u8 0, .complex .f64 0 0, .complex .f64 0 0, .string ⟨#[]⟩, .int .i64 0]
  have HBA := Lib.hid hbA
  have HB := Lib.hid hB
  have m0 := hP.row.cell 0
  have m1 := hP.row.cell 1
  simp only [List.getElem?_toArray, List.getElem?_cons_zero, List.getElem?_cons_succ] at m0 m1
  by_cases hlt : i < L.length
  · obtain ⟨g, off, rfl, hc⟩ := hP.tok ht hlt
    have x1 : (i : Int) < (L.length : Int) := by omega
    have x2 : ¬ (i : Int) < 0 := by omega
    have HT := Lib.hid (show tk L i = L[i] by unfold tk; rw [List.getElem?_eq_getElem hlt]; rfl)
    obtain ⟨⟨⟨k, t, n⟩, ⟨p1, p2⟩, ⟨q1, q2⟩⟩, hL⟩ : ∃ t : PT, t = L[i] := ⟨_, rfl⟩
    rw [← hL] at hc HT
    have c0 := hc 0 (by omega)
    have c1 := hc 1 (by omega)
    have c2 := hc 2 (by omega)
    have c3 := hc 3 (by omega)
    have c4 := hc 4 (by omega)
    simp only [PT.vals, Lx.Tk.vals, Pl.C, List.getElem?_cons_zero, List.getElem?_cons_succ, Nat.add_zero] at c0 c1 c2 c3 c4
    have hIW : IntKind.i64.wrap (i : Int) = (i : Int) := IntWalk.i64_in _ (by omega)
    clear hc hL h ht hbA hB hP
    go_enter Try.func75, Try.ntmps75
    go_wp2
    generalize w.alloc zeroB = wa at *
    go_quiet (fail)
    go_wp2
    have m0' : (wa.drewN nq).cell? _ = _ := m0
    have m1' : (wa.drewN nq).cell? _ = _ := m1
    have c0' : (wa.drewN nq).cell? _ = _ := c0
    have c1' : (wa.drewN nq).cell? _ = _ := c1
    have c2' : (wa.drewN nq).cell? _ = _ := c2
    have c3' : (wa.drewN nq).cell? _ = _ := c3
    have c4' : (wa.drewN nq).cell? _ = _ := c4
    have HBA := Lib.hid (Lx.below_drewN HBA.out nq)
    have HB := Lib.hid (HB.out.drewN nq)
    clear m0 m1 c0 c1 c2 c3 c4
    generalize wa.drewN nq = wb at *
    go_still_tail 10, (by kernel_rfl)
    change wpList _ _ _ _ _ wb.drew
    have HBA := Lib.hid (Lx.below_drewN HBA.out 1)
    have HB := Lib.hid (HB.out.drewN 1)
    clear m0' m1' c0' c1' c2' c3' c4'
    rw [show wb.drewN 1 = wb.drew from rfl] at HBA HB
    generalize wb.drew = wc at *
    obtain ⟨z0, z1, z2, z3, z4, f0, f1, f2, f3, f4⟩ := HB.out.tok
    go_wp2
    refine bodyPost_ret (Lx.tok_ret1 rfl _ _ w.heap.size _ _ _ _ _ rfl (Lx.tok_stored HB.out _ _ _ _ _)) rfl ?_
    exact ⟨by rw [HT.out]; rfl, Lx.below_stored HBA.out (Nat.le_refl _) _ _ _ _ _⟩
  · have x1 : ¬ (i : Int) < (L.length : Int) := by omega
    have HT := Lib.hid (show tk L i = noPT by unfold tk; rw [List.getElem?_eq_none (by omega)]; rfl)
    clear h ht hB hP hbA
    go_enter Try.func75, Try.ntmps75
    go_wp2
    generalize w.alloc zeroB = wa at *
    go_quiet (fail)
    have HBA := Lib.hid (Lx.below_drewN HBA.out nq)
    have HB := Lib.hid (HB.out.drewN nq)
    clear m0 m1
    generalize wa.drewN nq = wb at *
    obtain ⟨z0, z1, z2, z3, z4, f0, f1, f2, f3, f4⟩ := HB.out.tok
    go_wp2
    refine bodyPost_ret (Lx.tok_ret1 rfl _ _ w.heap.size _ _ _ _ _ rfl (Lx.tok_stored HB.out _ _ _ _ _)) rfl ?_
    exact ⟨by rw [HT.out]; simp [PT.val, noPT, noTk, Lx.Tk.val, Lx.Tk.vals, Pl.C, fl_0], Lx.below_stored HBA.out (Nat.le_refl _) _ _ _ _ _⟩
theorem val_form (t : PT) : ∃ (k : Nat) (p1 p2 q1 q2 : Nat) (s : ByteArray) (n : Int), t = (⟨k, s, n⟩, (p1, p2), (q1, q2)) ∧ PT.val t = .agg #[.int .u8 k, .complex .f64 (fl p1) (fl p2), .complex .f64 (fl q1) (fl q2), .string s, .int .i64 n] := by
  obtain ⟨⟨k, s, n⟩, ⟨p1, p2⟩, ⟨q1, q2⟩⟩ := t
  exact ⟨k, p1, p2, q1, q2, s, n, rfl, rfl⟩

set_option maxRecDepth 100000 in
set_option maxHeartbeats 1600000 in
theorem is_any {w0 : World} {br c i : Nat} {A : Option Addr} {L : List PT} (ht : Toks w0 br A L) (hi : i ≤ 1000000) (s : ByteArray) (w : World) (h : PInv w0 w br A c L i) :
    Calls Try.prog 89 #[.pointer (some ⟨br, 0, none⟩), .string s] w fun e w' => e = .returned (.bool (isT L i s)) ∧ Below w.heap.size w w' := by
  have N1 := Lib.hid (now_any ht hi w h)
  have HI := Lib.hid (show isT L i s = (isSW (tk L i) && decide ((tk L i).1.text = s)) from rfl)
  obtain ⟨k, p1, p2, q1, q2, t, n, e1, e2⟩ := val_form (tk L i)
  rw [e2] at N1
  rw [e1] at HI
  clear e1 e2 h ht hi
  generalize isT L i s = b at *
  go_enter Try.func89, Try.ntmps89
  go_wp2_with fail
  ((with_reducible refine N1.out.mono ?_); rintro e w1 ⟨rfl, hb⟩)
  have HB := Lib.hid hb
  have hl : t.toList = t.data.toList := ByteArray.toList_eq t
  have hl2 : s.toList = s.data.toList := ByteArray.toList_eq s
  have ht1 : (t.toList == s.toList) = decide (t = s) := by
    rw [hl, hl2, Bool.eq_iff_iff, beq_iff_eq, decide_eq_true_eq]
    exact ⟨fun h => Lx.bytes_ext h, fun h => by rw [h]⟩
  have k5 : ((k : Int) == 5) = decide (k = 5) := by rw [Bool.eq_iff_iff, beq_iff_eq, decide_eq_true_eq]; omega
  have k6 : ((k : Int) == 6) = decide (k = 6) := by rw [Bool.eq_iff_iff, beq_iff_eq, decide_eq_true_eq]; omega
  simp only [isSW] at HI
  clear hl hl2 hb N1
  generalize decide (t = s) = bt at *
  generalize decide (k = 5) = b5 at *
  generalize decide (k = 6) = b6 at *
  have HI2 := Lib.hid HI.out
  rcases b5 with _ | _ <;> rcases b6 with _ | _ <;> rcases bt with _ | _
  all_goals
    go_wp2
    go_ret
    exact ⟨ret_bool (by rw [HI2.out]; rfl), HB.out.alloc HB.out.size _⟩
end Go.Proofs.Ytecmjhohniipoaa.Ex
