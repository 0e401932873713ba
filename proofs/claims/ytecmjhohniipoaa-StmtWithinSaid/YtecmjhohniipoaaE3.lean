/- The walks of eat, need, name. -/
import Derived.Test.YtecmjhohniipoaaE2
set_option linter.unusedSimpArgs false
set_option linter.unusedVariables false
namespace Go.Proofs.Ytecmjhohniipoaa.Ex
open Go.RowKit
open Tr (Nd Fo RepS)
open Lx (Tk noTk Blk run_store_complexL TokAt)
open Fl
attribute [local go_sem] run_store_complexL

/-- The parse's own panic. -/
abbrev bad (k : Nat) : Ending := .panicked [{ v := .iface 100 (.int .i64 k), recovered := false }]
/-- What a function answers that reads a tree, all of it in blocks from B on. -/
def TreeR (B : Nat) (w0 w : World) (br : Nat) (A : Option Addr) (c : Nat) (L : List PT) (r : Except Nat (T1 × Nat)) (e : Ending) (w' : World) : Prop := match r with
  | .ok (x, j) => ∃ b, e = .returned (.pointer (some ⟨b, 0, none⟩)) ∧ PInv w0 w' br A c L j ∧ w.grownBy w' (some br) ∧ RepS (fun y => B ≤ y) w' (.node x.1 x.2 .no) [.pointer (some ⟨b, 0, none⟩)]
  | .error k => e = bad k ∧ w.grownBy w' (some br)
section
variable {w0 w w' : World} {br c i i' : Nat} {A : Option Addr} {L : List PT}
theorem PInv.at_ (h : PInv w0 w br A c L i) : w.cell? ⟨br, 1, none⟩ = some (.int .i64 i) ∧ w.frozen? ⟨br, 1, none⟩ = false ∧ br < w.heap.size := ⟨h.row.cell 1, h.row.frozen 1, h.row.lt⟩
theorem PInv.set_ (h : PInv w0 w br A c L i) (j : Nat) : PInv w0 (w.setCell ⟨br, 1, none⟩ (.int .i64 j)) br A c L j ∧ w.grownBy (w.setCell ⟨br, 1, none⟩ (.int .i64 j)) (some br) := by
  have hg := Lx.grown_set w br 1 (.int .i64 j)
  refine ⟨⟨?_, grown_trans h.grown hg⟩, hg⟩
  have := h.row.set_ 1 (.int .i64 j)
  simpa using this
/-- The row's state, and that since w nothing but it is turned. -/
structure PG (w0 w w1 : World) (br : Nat) (A : Option Addr) (c : Nat) (L : List PT) (i : Nat) : Prop where
  inv : PInv w0 w1 br A c L i
  since : w.grownBy w1 (some br)
theorem PG.far {w1 : World} (h : PG w0 w w1 br A c L i) (hw : PInv w0 w br A c L i') {b : Nat} (hb : w.heap.size ≤ b) (o : Nat) (u : Value) : PG w0 w (w1.setCell ⟨b, o, none⟩ u) br A c L i := by
  have hl := hw.row.lt
  have hs := hw.grown.size
  have hg := Lx.grown_set w1 b o u
  have hk : ∀ (a : World), a.heap.size ≤ b → a.grownBy w1 (some br) → a.grownBy (w1.setCell ⟨b, o, none⟩ u) (some br) := fun a ha h =>
    ⟨h.os, h.tape, h.output, by rw [World.size_setCell]; exact h.size, fun k hk hr => (hg.block k (Nat.lt_of_lt_of_le hk h.size) (fun e => by injection e with e; omega)).trans (h.block k hk hr)⟩
  exact ⟨⟨h.1.row.far (show br ≠ b by omega) u, hk w0 (by omega) h.1.grown⟩, hk w hb h.2⟩
theorem PG.below {w1 w2 : World} (h : PG w0 w w1 br A c L i) (hb : Below w1.heap.size w1 w2) : PG w0 w w2 br A c L i := ⟨h.1.below hb, grown_trans h.2 (grown_of_below hb _)⟩
theorem PG.set_ {w1 : World} (h : PG w0 w w1 br A c L i) (j : Nat) : PG w0 w (w1.setCell ⟨br, 1, none⟩ (.int .i64 j)) br A c L j := ⟨(h.1.set_ j).1, grown_trans h.2 (h.1.set_ j).2⟩
theorem PG.store5 {w1 : World} (h : PG w0 w w1 br A c L i) (hw : PInv w0 w br A c L i') {b : Nat} (hb : w.heap.size ≤ b) (x0 x1 x2 x3 x4 : Value) :
    PG w0 w (((((w1.setCell ⟨b, 0, none⟩ x0).setCell ⟨b, 1, none⟩ x1).setCell ⟨b, 2, none⟩ x2).setCell ⟨b, 3, none⟩ x3).setCell ⟨b, 4, none⟩ x4) br A c L i :=
  ((((h.far hw hb _ _).far hw hb _ _).far hw hb _ _).far hw hb _ _).far hw hb _ _
end
theorem isT_lt {L : List PT} {i : Nat} {s : ByteArray} (h : isT L i s = true) : i < L.length := by
  rcases Nat.lt_or_ge i L.length with h1 | h1
  · exact h1
  · unfold isT tk at h
    rw [List.getElem?_eq_none h1] at h
    simp [isSW, noPT, noTk] at h

set_option maxRecDepth 100000 in
set_option maxHeartbeats 1600000 in
theorem eat_no {w0 : World} {br c i : Nat} {A : Option Addr} {L : List PT} (ht : Toks w0 br A L) (hi : i ≤ 900000) (s : ByteArray) (w : World) (h : PInv w0 w br A c L i) (hT : isT L i s = false) :
    Calls Try.prog 87 #[.pointer (some ⟨br, 0, none⟩), .string s] w fun e w' => e = .returned (.bool false) ∧ PInv w0 w' br A c L i ∧ w.grownBy w' (some br) := by
  have n1 := is_any ht (by omega) s w h
  rw [hT] at n1
  have N1 := Lib.hid n1
  have H := Lib.hid h
  clear h ht n1
  go_enter Try.func87, Try.ntmps87
  go_wp2_with fail
  ((with_reducible refine N1.out.mono ?_); rintro e w1 ⟨rfl, hb⟩)
  have HP := Lib.hid (H.out.below hb)
  have HG := Lib.hid (grown_of_below hb (some br))
  clear hb N1 H
  go_wp2
  go_ret
  exact ⟨rfl, HP.out, HG.out⟩
set_option maxRecDepth 100000 in
set_option maxHeartbeats 1600000 in
theorem eat_yes {w0 : World} {br c i : Nat} {A : Option Addr} {L : List PT} (ht : Toks w0 br A L) (hi : i ≤ 900000) (s : ByteArray) (w : World) (h : PInv w0 w br A c L i) (hT : isT L i s = true) :
    Calls Try.prog 87 #[.pointer (some ⟨br, 0, none⟩), .string s] w fun e w' => e = .returned (.bool true) ∧ PInv w0 w' br A c L (i + 1) ∧ w.grownBy w' (some br) := by
  have n1 := is_any ht (by omega) s w h
  rw [hT] at n1
  have N1 := Lib.hid n1
  have H := Lib.hid h
  clear h ht n1
  go_enter Try.func87, Try.ntmps87
  go_wp2_with fail
  ((with_reducible refine N1.out.mono ?_); rintro e w1 ⟨rfl, hb⟩)
  have HP := Lib.hid (H.out.below hb)
  have HG := Lib.hid (grown_of_below hb (some br))
  clear hb N1 H
  obtain ⟨m1, f1, hlt⟩ := HP.out.at_
  have x0 : (0 : Int) ≤ (i : Int) := by omega
  go_wp2
  go_ret
  obtain ⟨hp, hg⟩ := HP.out.set_ (i + 1)
  exact ⟨rfl, hp, grown_trans HG.out hg⟩

set_option maxRecDepth 100000 in
set_option maxHeartbeats 1600000 in
theorem need_ok {w0 : World} {br c i : Nat} {A : Option Addr} {L : List PT} (ht : Toks w0 br A L) (hi : i ≤ 900000) (s : ByteArray) (w : World) (h : PInv w0 w br A c L i) (hT : isT L i s = true) :
    Calls Try.prog 91 #[.pointer (some ⟨br, 0, none⟩), .string s] w fun e w' => e = .returned (.tuple #[]) ∧ PInv w0 w' br A c L (i + 1) ∧ w.grownBy w' (some br) := by
  have N1 := Lib.hid (eat_yes ht hi s w h hT)
  clear h ht
  go_enter Try.func91, Try.ntmps91
  go_wp2_with fail
  ((with_reducible refine N1.out.mono ?_); rintro e w1 ⟨rfl, hp, hg⟩)
  have HP := Lib.hid hp
  have HG := Lib.hid hg
  clear hp hg
  go_wp2
  go_end0
  exact ⟨rfl, HP.out, HG.out⟩

set_option maxRecDepth 100000 in
set_option maxHeartbeats 1600000 in
theorem need_no {w0 : World} {br c i : Nat} {A : Option Addr} {L : List PT} (ht : Toks w0 br A L) (hi : i ≤ 900000) (s : ByteArray) (w : World) (h : PInv w0 w br A c L i) (hT : isT L i s = false) :
    Calls Try.prog 91 #[.pointer (some ⟨br, 0, none⟩), .string s] w fun e w' => e = bad i ∧ w.grownBy w' (some br) := by
  have N1 := Lib.hid (eat_no ht hi s w h hT)
  clear h ht
  go_enter Try.func91, Try.ntmps91
  go_wp2_with fail
  ((with_reducible refine N1.out.mono ?_); rintro e w1 ⟨rfl, hp, hg⟩)
  obtain ⟨m1, f1, hlt⟩ := hp.at_
  have HG := Lib.hid hg
  clear hp hg
  go_wp2
  exact ⟨rfl, rfl, HG.out⟩

set_option maxRecDepth 100000 in
set_option maxHeartbeats 1600000 in
theorem name_ok {w0 : World} {br c i : Nat} {A : Option Addr} {L : List PT} (ht : Toks w0 br A L) (hi : i ≤ 900000) (w : World) (h : PInv w0 w br A c L i) (hT : (tk L i).1.kind = 1) :
    Calls Try.prog 96 #[.pointer (some ⟨br, 0, none⟩)] w fun e w' => e = .returned (PT.val (tk L i)) ∧ PInv w0 w' br A c L (i + 1) ∧ w.grownBy w' (some br) := by
  have hbA : Below w.heap.size w (w.alloc zeroB) := (Below.refl w.heap.size w).alloc (Nat.le_refl _) _
  have N1 := Lib.hid (now_any ht (by omega) _ (h.below hbA))
  have H := Lib.hid h
  have HBA := Lib.hid hbA
  have hB := Blk.new w 68 #[.int .u8 0, .complex .f64 0 0, .complex .f64 0 0, .string ⟨#[]⟩, .int .i64 0]
  have HB := Lib.hid hB
  obtain ⟨k, p1, p2, q1, q2, t, n, e1, e2⟩ := val_form (tk L i)
  rw [e1] at hT
  simp only at hT
  subst hT
  rw [e2] at N1 ⊢
  have hal : w.heap.size < (w.alloc zeroB).heap.size := by rw [World.size_alloc]; exact Nat.lt_succ_self _
  clear hbA hB h e1 e2 ht
  go_enter Try.func96, Try.ntmps96
  go_wp2_with fail
  ((with_reducible refine N1.out.mono ?_); rintro e w1 ⟨rfl, hb⟩)
  have hp := (H.out.below HBA.out).below hb
  have hbk := HB.out.below hb hal
  have hbl : Below w.heap.size w w1 := HBA.out.trans (hb.mono (Nat.le_of_lt hal))
  obtain ⟨m1, f1, hlt⟩ := hp.at_
  obtain ⟨z0, z1, z2, z3, z4, g0, g1, g2, g3, g4⟩ := hbk.tok
  have HP := Lib.hid hp
  have HBK := Lib.hid hbk
  have HBL := Lib.hid hbl
  have hbr := H.out.row.lt
  have x0 : (0 : Int) ≤ (i : Int) := by omega
  have hlt2 := hbk.lt
  clear hp hbk hbl hb HB HBA N1
  go_wp2
  have hPG := ((show PG w0 w w1 br A c L i from ⟨HP.out, grown_of_below HBL.out _⟩).set_ (i + 1))
  have hPG2 := (hPG.store5 H.out (Nat.le_refl _) (.int .u8 1) (.complex .f64 (fl p1) (fl p2)) (.complex .f64 (fl q1) (fl q2)) (.string t) (.int .i64 n)).below ((Below.refl _ _).alloc (Nat.le_refl _) (.cells #[.int .u8 1, .complex .f64 (fl p1) (fl p2), .complex .f64 (fl q1) (fl q2), .string t, .int .i64 n] 68))
  refine bodyPost_ret (Lx.tok_ret1 rfl _ _ w.heap.size _ _ _ _ _ rfl ((Lx.tok_stored (HBK.out.far (p := ⟨br, 1, none⟩) (Nat.ne_of_gt hbr) _) _ _ _ _ _).alloc _)) rfl ?_
  exact ⟨rfl, hPG2.1, hPG2.2⟩

set_option maxRecDepth 100000 in
set_option maxHeartbeats 1600000 in
theorem name_no {w0 : World} {br c i : Nat} {A : Option Addr} {L : List PT} (ht : Toks w0 br A L) (hi : i ≤ 900000) (w : World) (h : PInv w0 w br A c L i) (hT : ¬ (tk L i).1.kind = 1) :
    Calls Try.prog 96 #[.pointer (some ⟨br, 0, none⟩)] w fun e w' => e = bad i ∧ w.grownBy w' (some br) := by
  have hbA : Below w.heap.size w (w.alloc zeroB) := (Below.refl w.heap.size w).alloc (Nat.le_refl _) _
  have N1 := Lib.hid (now_any ht (by omega) _ (h.below hbA))
  have H := Lib.hid h
  have HBA := Lib.hid hbA
  obtain ⟨k, p1, p2, q1, q2, t, n, e1, e2⟩ := val_form (tk L i)
  rw [e1] at hT
  simp only at hT
  rw [e2] at N1
  have k1 : ((k : Int) == 1) = false := by simp only [beq_eq_false_iff_ne, ne_eq]; omega
  have k2 : ((k : Int) != 1) = true := by simp [bne, k1]
  have hal : w.heap.size < (w.alloc zeroB).heap.size := by rw [World.size_alloc]; exact Nat.lt_succ_self _
  clear hbA h e1 e2 ht hT
  go_enter Try.func96, Try.ntmps96
  go_wp2_with fail
  ((with_reducible refine N1.out.mono ?_); rintro e w1 ⟨rfl, hb⟩)
  have hp := (H.out.below HBA.out).below hb
  have hbl : Below w.heap.size w w1 := HBA.out.trans (hb.mono (Nat.le_of_lt hal))
  obtain ⟨m1, f1, hlt⟩ := hp.at_
  have HBL := Lib.hid hbl
  clear hp hbl hb HBA N1 H
  go_wp2
  exact ⟨rfl, rfl, grown_of_below (HBL.out.alloc HBL.out.size _) _⟩
end Go.Proofs.Ytecmjhohniipoaa.Ex
