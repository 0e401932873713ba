import Derived.Test.YtkemhmfdooghkaaGreatDoorX20
set_option linter.unusedSimpArgs false
set_option linter.unusedVariables false
set_option maxRecDepth 100000
set_option maxHeartbeats 6400000
namespace Go.Proofs.YtkemhmfdooghkaaGreatDoor
namespace St
open Go.RowKit
open Tr (Nd Fo RepS RepN Rep cellsN)
open Lx (Tk noTk Blk run_store_complexL TokAt)
open Fl
open Ex
attribute [local go_sem] run_store_complexL run_field1 run_field3
structure PInv (w0 w : World) (br : Nat) (A : Option Addr) (c : Nat) (L : List PT) (i : Nat) : Prop where
 row : Blk w br 135 #[.slice A L.length c, .int .i64 i]
 grown : w0.grownBy w (some br)
section
variable {w0 w w' : World} {br c i i' j : Nat} {A : Option Addr} {L : List PT}
theorem PInv.below (h : PInv w0 w br A c L i) (hb : Below w.heap.size w w') : PInv w0 w' br A c L i :=
 ⟨h.row.below hb h.row.lt, grown_trans h.grown (grown_of_below hb _)⟩
theorem PInv.tok (h : PInv w0 w br A c L i) (ht : Toks w0 br A L) {k : Nat} (hk : k < L.length) : ∃ g off, A = some ⟨g, off, none⟩ ∧ ∀ j, j < 5 → w.cell? ⟨g, off + k * 5 + j, none⟩ = (PT.vals L[k])[j]? := by
 obtain ⟨⟨g, off, sp⟩, e, hlt, hc⟩ := ht.reads.2 (by omega)
 have hl := flatP_len L
 have hget : ∀ m, m < L.length * 5 → ∃ u, (flatP L)[m]? = some u := fun m hm => ⟨(flatP L)[m]'(by omega), List.getElem?_eq_getElem (by omega)⟩
 have hs : sp = none := by
  obtain ⟨u, hu⟩ := hget 0 (by omega)
  have := World.cell?_spot (hc 0 u hu)
  simpa [Addr.add] using this
 subst hs
 refine ⟨g, off, e, fun j hj => ?_⟩
 rw [← flatP_at L k j hk hj]
 obtain ⟨u, hu⟩ := hget (k * 5 + j) (by omega)
 rw [hu, ← hc _ u hu]
 have ha : (⟨g, off, none⟩ : Addr).add (k * 5 + j) = ⟨g, off + k * 5 + j, none⟩ := by unfold Addr.add; split <;> simp_all [Nat.add_assoc]
 rw [ha]
 have hne := ht.far _ e
 exact World.cell?_of_block (h.grown.block g hlt (fun e => hne (by simpa using e)))
end
theorem now_any {w0 : World} {br c i : Nat} {A : Option Addr} {L : List PT} (ht : Toks w0 br A L) (hi : i ≤ 1000000) (w : World) (h : PInv w0 w br A c L i) :
 Calls Tryz.prog 107 #[.pointer (some ⟨br, 0, none⟩)] w fun e w' => e = .returned (PT.val (tk L i)) ∧ Below w.heap.size w w' := by
 have hlen := ht.len
 have x0 : (0 : Int) ≤ (i : Int) := by omega
 have hbA : Below w.heap.size w (w.alloc zeroB) := (Below.refl w.heap.size w).alloc nl _
 have hP := h.below hbA
 have hB := Blk.new w 40 #[.int .u8 0, .complex .f64 0 0, .complex .f64 0 0, .string ⟨#[]⟩, .int .i64 0]
 have HBA := qh hbA
 have HB := qh hB
 have m0 := hP.row.cell 0
 have m1 := hP.row.cell 1
 simp only [List.getElem?_toArray, List.getElem?_cons_zero, List.getElem?_cons_succ] at m0 m1
 by_cases hlt : i < L.length
 ·obtain ⟨g, off, rfl, hc⟩ := hP.tok ht hlt
  have x1 : (i : Int) < (L.length : Int) := by omega
  have x2 : ¬ (i : Int) < 0 := by omega
  have HT := qh (show tk L i = L[i] by unfold tk; rw [List.getElem?_eq_getElem hlt]; rfl)
  obtain ⟨⟨⟨k, t, n⟩, ⟨p1, p2⟩, ⟨q1, q2⟩⟩, hL⟩ : ∃ t : PT, t = L[i] := ⟨_, rfl⟩
  rw [← hL] at hc HT
  have c0 := hc 0 (by omega)
  have c1 := hc 1 (by omega)
  have c2 := hc 2 (by omega)
  have c3 := hc 3 (by omega)
  have c4 := hc 4 (by omega)
  simp only [PT.vals, Lx.Tk.vals, Pl.C, List.getElem?_cons_zero, List.getElem?_cons_succ, Nat.add_zero] at c0 c1 c2 c3 c4
  have hIW : IntKind.i64.wrap (i : Int) = (i : Int) := IntWalk.i64_in _ (by omega)
  clear hc hL h ht hbA hB hP
  go_enter Tryz.func107, Tryz.ntmps107
  go_wp2
  generalize w.alloc zeroB = wa at *
  go_quiet (fail)
  go_wp2
  have m0' : (wa.drewN nq).cell? _ = _ := m0
  have m1' : (wa.drewN nq).cell? _ = _ := m1
  have c0' : (wa.drewN nq).cell? _ = _ := c0
  have c1' : (wa.drewN nq).cell? _ = _ := c1
  have c2' : (wa.drewN nq).cell? _ = _ := c2
  have c3' : (wa.drewN nq).cell? _ = _ := c3
  have c4' : (wa.drewN nq).cell? _ = _ := c4
  have HBA := qh (Lx.below_drewN HBA.out nq)
  have HB := qh (HB.out.drewN nq)
  clear m0 m1 c0 c1 c2 c3 c4
  generalize wa.drewN nq = wb at *
  go_still_tail 10, (by kernel_rfl)
  change wpList _ _ _ _ _ wb.drew
  have HBA := qh (Lx.below_drewN HBA.out 1)
  have HB := qh (HB.out.drewN 1)
  clear m0' m1' c0' c1' c2' c3' c4'
  rw [show wb.drewN 1 = wb.drew from rfl] at HBA HB
  generalize wb.drew = wc at *
  obtain ⟨z0, z1, z2, z3, z4, f0, f1, f2, f3, f4⟩ := HB.out.tok
  go_wp2
  refine bodyPost_ret (Lx.tok_ret1 rfl _ _ w.heap.size _ _ _ _ _ rfl (Lx.tok_stored HB.out _ _ _ _ _)) rfl ?_
  exact ⟨by rw [HT.out]; rfl, Lx.below_stored HBA.out nl _ _ _ _ _⟩
 ·have x1 : ¬ (i : Int) < (L.length : Int) := by omega
  have HT := qh (show tk L i = noPT by unfold tk; rw [List.getElem?_eq_none (by omega)]; rfl)
  clear h ht hB hP hbA
  go_enter Tryz.func107, Tryz.ntmps107
  go_wp2
  generalize w.alloc zeroB = wa at *
  go_quiet (fail)
  have HBA := qh (Lx.below_drewN HBA.out nq)
  have HB := qh (HB.out.drewN nq)
  clear m0 m1
  generalize wa.drewN nq = wb at *
  obtain ⟨z0, z1, z2, z3, z4, f0, f1, f2, f3, f4⟩ := HB.out.tok
  go_wp2
  refine bodyPost_ret (Lx.tok_ret1 rfl _ _ w.heap.size _ _ _ _ _ rfl (Lx.tok_stored HB.out _ _ _ _ _)) rfl ?_
  exact ⟨by rw [HT.out]; simp [PT.val, noPT, noTk, Lx.Tk.val, Lx.Tk.vals, Pl.C, fl_0], Lx.below_stored HBA.out nl _ _ _ _ _⟩
theorem is_any {w0 : World} {br c i : Nat} {A : Option Addr} {L : List PT} (ht : Toks w0 br A L) (hi : i ≤ 1000000) (s : ByteArray) (w : World) (h : PInv w0 w br A c L i) :
 Calls Tryz.prog 135 #[.pointer (some ⟨br, 0, none⟩), .string s] w fun e w' => e = .returned (.bool (isT L i s)) ∧ Below w.heap.size w w' := by
 have N1 := qh (now_any ht hi w h)
 have HI := qh (show isT L i s = (isSW (tk L i) && decide ((tk L i).1.text = s)) from rfl)
 obtain ⟨k, p1, p2, q1, q2, t, n, e1, e2⟩ := val_form (tk L i)
 rw [e2] at N1
 rw [e1] at HI
 clear e1 e2 h ht hi
 generalize isT L i s = b at *
 go_enter Tryz.func135, Tryz.ntmps135
 go_wp2_with fail
 ((with_reducible refine N1.out.mono ?_); rintro e w1 ⟨rfl, hb⟩)
 have HB := qh hb
 have hl : t.toList = t.data.toList := ByteArray.toList_eq t
 have hl2 : s.toList = s.data.toList := ByteArray.toList_eq s
 have ht1 : (t.toList == s.toList) = decide (t = s) := by
  rw [hl, hl2, Bool.eq_iff_iff, beq_iff_eq, decide_eq_true_eq]
  exact ⟨fun h => Lx.bytes_ext h, fun h => by rw [h]⟩
 have k5 : ((k : Int) == 5) = decide (k = 5) := by rw [Bool.eq_iff_iff, beq_iff_eq, decide_eq_true_eq]; omega
 have k6 : ((k : Int) == 6) = decide (k = 6) := by rw [Bool.eq_iff_iff, beq_iff_eq, decide_eq_true_eq]; omega
 simp only [isSW] at HI
 clear hl hl2 hb N1
 generalize decide (t = s) = bt at *
 generalize decide (k = 5) = b5 at *
 generalize decide (k = 6) = b6 at *
 have HI2 := qh HI.out
 rcases b5 with _ | _ <;> rcases b6 with _ | _ <;> rcases bt with _ | _
 all_goals
  go_wp2
  go_ret
  exact ⟨ret_bool (by rw [HI2.out]; rfl), HB.out.alloc HB.out.size _⟩
abbrev bad (k : Nat) : Ending := .panicked [{ v := .iface 132 (.int .i64 k), recovered := false }]
def TreeR (B : Nat) (w0 w : World) (br : Nat) (A : Option Addr) (c : Nat) (L : List PT) (r : Except Nat (T1 × Nat)) (e : Ending) (w' : World) : Prop := match r with
 | .ok (x, j) => ∃ b, e = .returned (.pointer (some ⟨b, 0, none⟩)) ∧ PInv w0 w' br A c L j ∧ w.grownBy w' (some br) ∧ RepS (fun y => B ≤ y) w' (.node x.1 x.2 .no) [.pointer (some ⟨b, 0, none⟩)]
 | .error k => e = bad k ∧ w.grownBy w' (some br)
section
variable {w0 w w' : World} {br c i i' j : Nat} {A : Option Addr} {L : List PT}
theorem PInv.at_ (h : PInv w0 w br A c L i) : w.cell? ⟨br, 1, none⟩ = some (.int .i64 i) ∧ w.frozen? ⟨br, 1, none⟩ = false ∧ br < w.heap.size := ⟨h.row.cell 1, h.row.frozen 1, h.row.lt⟩
theorem PInv.set_ (h : PInv w0 w br A c L i) (j : Nat) : PInv w0 (w.setCell ⟨br, 1, none⟩ (.int .i64 j)) br A c L j ∧ w.grownBy (w.setCell ⟨br, 1, none⟩ (.int .i64 j)) (some br) := by
 have hg := Lx.grown_set w br 1 (.int .i64 j)
 refine ⟨⟨?_, grown_trans h.grown hg⟩, hg⟩
 have := h.row.set_ 1 (.int .i64 j)
 simpa using this
structure PG (w0 w w1 : World) (br : Nat) (A : Option Addr) (c : Nat) (L : List PT) (i : Nat) : Prop where
 inv : PInv w0 w1 br A c L i
 since : w.grownBy w1 (some br)
theorem PG.far {w1 : World} (h : PG w0 w w1 br A c L i) (hw : PInv w0 w br A c L i') {b : Nat} (hb : w.heap.size ≤ b) (o : Nat) (u : Value) : PG w0 w (w1.setCell ⟨b, o, none⟩ u) br A c L i := by
 have hl := hw.row.lt
 have hs := hw.grown.size
 have hg := Lx.grown_set w1 b o u
 have hk : ∀ (a : World), a.heap.size ≤ b → a.grownBy w1 (some br) → a.grownBy (w1.setCell ⟨b, o, none⟩ u) (some br) := fun a ha h =>
  ⟨h.os, h.tape, h.output, by rw [World.size_setCell]; exact h.size, fun k hk hr => (hg.block k (Nat.lt_of_lt_of_le hk h.size) (fun e => by injection e with e; omega)).trans (h.block k hk hr)⟩
 exact ⟨⟨h.1.row.far (show br ≠ b by omega) u, hk w0 (by omega) h.1.grown⟩, hk w hb h.2⟩
theorem PG.below {w1 w2 : World} (h : PG w0 w w1 br A c L i) (hb : Below w1.heap.size w1 w2) : PG w0 w w2 br A c L i := ⟨h.1.below hb, grown_trans h.2 (grown_of_below hb _)⟩
theorem PG.set_ {w1 : World} (h : PG w0 w w1 br A c L i) (j : Nat) : PG w0 w (w1.setCell ⟨br, 1, none⟩ (.int .i64 j)) br A c L j := ⟨(h.1.set_ j).1, grown_trans h.2 (h.1.set_ j).2⟩
end
theorem eat_no {w0 : World} {br c i : Nat} {A : Option Addr} {L : List PT} (ht : Toks w0 br A L) (hi : i ≤ 900000) (s : ByteArray) (w : World) (h : PInv w0 w br A c L i) (hT : isT L i s = false) :
 Calls Tryz.prog 118 #[.pointer (some ⟨br, 0, none⟩), .string s] w fun e w' => e = .returned (.bool false) ∧ PInv w0 w' br A c L i ∧ w.grownBy w' (some br) := by
 have n1 := is_any ht (by omega) s w h
 rw [hT] at n1
 have N1 := qh n1
 have H := qh h
 clear h ht n1
 go_enter Tryz.func118, Tryz.ntmps118
 go_wp2_with fail
 ((with_reducible refine N1.out.mono ?_); rintro e w1 ⟨rfl, hb⟩)
 have HP := qh (H.out.below hb)
 have HG := qh (grown_of_below hb (some br))
 clear hb N1 H
 go_wp2
 go_ret
 exact ⟨rfl, HP.out, HG.out⟩
theorem eat_yes {w0 : World} {br c i : Nat} {A : Option Addr} {L : List PT} (ht : Toks w0 br A L) (hi : i ≤ 900000) (s : ByteArray) (w : World) (h : PInv w0 w br A c L i) (hT : isT L i s = true) :
 Calls Tryz.prog 118 #[.pointer (some ⟨br, 0, none⟩), .string s] w fun e w' => e = .returned (.bool true) ∧ PInv w0 w' br A c L (i + 1) ∧ w.grownBy w' (some br) := by
 have n1 := is_any ht (by omega) s w h
 rw [hT] at n1
 have N1 := qh n1
 have H := qh h
 clear h ht n1
 go_enter Tryz.func118, Tryz.ntmps118
 go_wp2_with fail
 ((with_reducible refine N1.out.mono ?_); rintro e w1 ⟨rfl, hb⟩)
 have HP := qh (H.out.below hb)
 have HG := qh (grown_of_below hb (some br))
 clear hb N1 H
 obtain ⟨m1, f1, hlt⟩ := HP.out.at_
 have x0 : (0 : Int) ≤ (i : Int) := by omega
 go_wp2
 go_ret
 obtain ⟨hp, hg⟩ := HP.out.set_ (i + 1)
 exact ⟨rfl, hp, grown_trans HG.out hg⟩
theorem need_ok {w0 : World} {br c i : Nat} {A : Option Addr} {L : List PT} (ht : Toks w0 br A L) (hi : i ≤ 900000) (s : ByteArray) (w : World) (h : PInv w0 w br A c L i) (hT : isT L i s = true) :
 Calls Tryz.prog 134 #[.pointer (some ⟨br, 0, none⟩), .string s] w fun e w' => e = .returned (.tuple #[]) ∧ PInv w0 w' br A c L (i + 1) ∧ w.grownBy w' (some br) := by
 have N1 := qh (eat_yes ht hi s w h hT)
 clear h ht
 go_enter Tryz.func134, Tryz.ntmps134
 go_wp2_with fail
 ((with_reducible refine N1.out.mono ?_); rintro e w1 ⟨rfl, hp, hg⟩)
 have HP := qh hp
 have HG := qh hg
 clear hp hg
 go_wp2
 go_end0
 exact ⟨rfl, HP.out, HG.out⟩
theorem need_no {w0 : World} {br c i : Nat} {A : Option Addr} {L : List PT} (ht : Toks w0 br A L) (hi : i ≤ 900000) (s : ByteArray) (w : World) (h : PInv w0 w br A c L i) (hT : isT L i s = false) :
 Calls Tryz.prog 134 #[.pointer (some ⟨br, 0, none⟩), .string s] w fun e w' => e = bad i ∧ w.grownBy w' (some br) := by
 have N1 := qh (eat_no ht hi s w h hT)
 clear h ht
 go_enter Tryz.func134, Tryz.ntmps134
 go_wp2_with fail
 ((with_reducible refine N1.out.mono ?_); rintro e w1 ⟨rfl, hp, hg⟩)
 obtain ⟨m1, f1, hlt⟩ := hp.at_
 have HG := qh hg
 clear hp hg
 go_wp2
 exact ⟨rfl, rfl, HG.out⟩
section
variable {w0 w w1 w2 : World} {br c i j : Nat} {A : Option Addr} {L : List PT}
theorem PG.trans (h : PG w0 w w1 br A c L i) (h2 : PInv w0 w2 br A c L j ∧ w1.grownBy w2 (some br)) : PG w0 w w2 br A c L j := ⟨h2.1, grown_trans h.2 h2.2⟩
theorem PG.start (h : PInv w0 w br A c L i) : PG w0 w w br A c L i := ⟨h, ⟨rfl, rfl, rfl, Nat.le_refl _, fun _ _ _ => rfl⟩⟩
theorem PG.alloc (h : PG w0 w w1 br A c L i) (o : Obj) : PG w0 w (w1.alloc o) br A c L i := h.below ((Below.refl _ _).alloc nl _)
end
theorem PG.gfar {w0 w wr w1 : World} {br c i i' : Nat} {A : Option Addr} {L : List PT} {row : Option Nat} (h : PG w0 w wr br A c L i) (hw : PInv w0 w br A c L i') (hg : wr.grownBy w1 row) (hr : ∀ k, row = some k → w.heap.size ≤ k) : PG w0 w w1 br A c L i := by
 have hl := hw.row.lt
 have hs := hw.grown.size
 have hk : ∀ (a : World), a.heap.size ≤ w.heap.size → a.grownBy wr (some br) → a.grownBy w1 (some br) := fun a ha h =>
  ⟨hg.os.trans h.os, hg.tape.trans h.tape, hg.output.trans h.output, Nat.le_trans h.size hg.size, fun k hk hne => (hg.block k (Nat.lt_of_lt_of_le hk h.size) (fun e => by have := hr k e.symm; omega)).trans (h.block k hk hne)⟩
 exact ⟨⟨h.1.row.grown hg (fun e => by have := hr _ e.symm; omega), hk w0 hs h.1.grown⟩, hk w nl h.2⟩
structure KN (B : Nat) (w : World) (b : Nat) (d : Nd) (sv : Value) (xs : List Value) : Prop where
 blk : Tr.Blk w b 38 (cellsN d sv)
 own : w.ownsRow B 31 1 sv xs.length xs
 low : B ≤ b
section
variable {B B0 br b : Nat} {w w1 W : World} {d : Nd} {sv v : Value} {xs : List Value} {acc : List T1}
theorem KN.grown (h : KN B w b d sv xs) (hg : w.grownBy w1 (some br)) (hbr : br < B) : KN B w1 b d sv xs :=
 ⟨h.blk.grown hg (fun e => by injection e with e; have := h.low; omega), h.own.kept hg (.inr fun e => by have := (h.own.lt _ e).1; omega), h.low⟩
theorem KN.below (h : KN B w b d sv xs) (hb : Below w.heap.size w w1) : KN B w1 b d sv xs :=
 ⟨h.blk.below hb h.blk.lt, h.own.kept (grown_of_below hb none) (by rcases h : sv.ownBlock with _ | g; exact .inl rfl; exact .inr (by simp)), h.low⟩
theorem KN.facts (h : KN B w b d sv xs) : w.cell? ⟨b, 4, none⟩ = some sv ∧ w.frozen? ⟨b, 4, none⟩ = false ∧ b < w.heap.size := ⟨h.blk.cell 4, h.blk.frozen 4, h.blk.lt⟩
structure KG (B0 B : Nat) (w : World) (b : Nat) (d : Nd) (sv : Value) (acc : List T1) (xs : List Value) : Prop where
 kn : KN B w b d sv xs
 rep : RepS (fun y => B0 ≤ y ∧ y ≠ b ∧ sv.ownBlock ≠ some y) w (forest acc) xs
 len : xs.length = acc.length
theorem KG.grown (h : KG B0 B w b d sv acc xs) (hg : w.grownBy w1 (some br)) (hbr : br < B0) (hB : B0 ≤ B) : KG B0 B w1 b d sv acc xs :=
 ⟨h.kn.grown hg (by omega), h.rep.keep hg.size (fun x hx hl => hg.block x hl (fun e => by injection e with e; have := hx.1; omega)) (fun x hx _ => hx), h.len⟩
theorem KG.below (h : KG B0 B w b d sv acc xs) (hb : Below w.heap.size w w1) : KG B0 B w1 b d sv acc xs := ⟨h.kn.below hb, h.rep.below hb, h.len⟩
theorem KG.done (h : KG B0 B w b d sv acc xs) (hB : B0 ≤ B) : RepS (fun y => B0 ≤ y) w (.node d (forest acc) .no) [.pointer (some ⟨b, 0, none⟩)] :=
 RepS.mk h.kn.blk h.kn.own (h.rep.more fun x hx _ => hx.1) (Nat.le_trans hB h.kn.low) (fun g hg => Nat.le_trans hB (h.kn.own.lt g hg).1)
end
section
variable {B B0 br b c i i' : Nat} {w0 w wr w1 W : World} {d : Nd} {A : Option Addr} {L : List PT} {sv u v : Value} {xs vs : List Value} {acc : List T1}
theorem KN.after (h : KN B wr b d sv xs) (hg : wr.grownBy w1 sv.ownBlock) : w1.cell? ⟨b, 4, none⟩ = some sv ∧ w1.frozen? ⟨b, 4, none⟩ = false ∧ b < w1.heap.size :=
 have hb := h.blk.grown hg (fun e => Tr.own_blk_ne h.own h.blk (by decide) e.symm)
 ⟨hb.cell 4, hb.frozen 4, hb.lt⟩
theorem KG.new {f : Fo} (h : KG B0 B wr b d sv acc xs) (hr : RepS (fun y => wr.heap.size ≤ y) w1 f vs) (hB : B0 ≤ B) : RepS (fun y => B0 ≤ y ∧ y ≠ b ∧ sv.ownBlock ≠ some y) w1 f vs := by
 have h1 := h.kn.blk.lt
 have h2 := h.kn.low
 exact hr.more fun y hy _ => ⟨by omega, by omega, fun e => by have := (h.kn.own.lt _ e).2; omega⟩
theorem KN.lower {B' : Nat} (h : KN B w b d sv xs) (hB : B' ≤ B) : KN B' w b d sv xs := ⟨h.blk, Lx.own_mono h.own hB, Nat.le_trans hB h.low⟩
theorem KG.lower {B' : Nat} (h : KG B0 B w b d sv acc xs) (hB : B' ≤ B) : KG B0 B' w b d sv acc xs := ⟨h.kn.lower hB, h.rep, h.len⟩
theorem rep_app {S : Nat → Prop} {l : List T1} (h2 : RepS S w (forest l) vs) : ∀ {acc : List T1} {xs : List Value}, RepS S w (forest acc) xs → RepS S w (forest (acc ++ l)) (xs ++ vs)
 | [], xs, h => by
   unfold forest RepS at h
   subst h
   exact h2
 | x :: acc, xs, h => by
   unfold forest RepS at h
   obtain ⟨b, A, c, ks, vs', rfl, g2, g3, g4, g5, g6, g7⟩ := h
   rw [List.cons_append]
   unfold forest RepS
   exact ⟨b, A, c, ks, vs' ++ vs, rfl, g2, g3, g4, g5, g6, rep_app h2 g7⟩
theorem KG.steps {g cap m : Nat} {l : List T1} (h : KG B0 B W b d sv acc xs) (hx : RepS (fun y => B0 ≤ y ∧ y ≠ b ∧ sv.ownBlock ≠ some y) W (forest l) vs) (hl : vs.length = l.length) (hm : m = xs.length + vs.length)
 (hown : w1.ownsRow B 31 1 (.slice (some ⟨g, 0, none⟩) m cap) m (xs ++ vs)) (hg : W.grownBy w1 sv.ownBlock) (hor : sv.ownBlock = some g ∨ g = W.heap.size) :
 KG B0 B (w1.setCell ⟨b, 4, none⟩ (.slice (some ⟨g, 0, none⟩) m cap)) b d (.slice (some ⟨g, 0, none⟩) m cap) (acc ++ l) (xs ++ vs) := by
 subst hm
 obtain ⟨⟨h1, h2, h4⟩, h3, h5⟩ := h
 have hne : sv.ownBlock ≠ some b := Tr.own_blk_ne h2 h1 (by decide)
 have hb1 : Tr.Blk w1 b 38 (cellsN d sv) := h1.grown hg (fun e => hne e.symm)
 have hgb : g ≠ b := by
  have := Tr.own_blk_ne hown hb1 (by decide)
  intro e; subst e; exact this rfl
 refine ⟨⟨?_, ?_, h4⟩, ?_, by rw [List.length_append, List.length_append, h5, hl]⟩
 ·have := hb1.set_ 4 (.slice (some ⟨g, 0, none⟩) (xs.length + vs.length) cap)
  rwa [Tr.cellsN_set] at this
 ·rw [List.length_append]
  exact hown.kept (Tr.setCell_grown _ _ _) (.inr (by show some g ≠ some b; simpa using hgb))
 ·have hS : ∀ y, (B0 ≤ y ∧ y ≠ b ∧ sv.ownBlock ≠ some y) → y < W.heap.size → (B0 ≤ y ∧ y ≠ b ∧ (Value.slice (some ⟨g, 0, none⟩) (xs.length + vs.length) cap).ownBlock ≠ some y) := by
   intro y hy hl
   obtain ⟨x1, x2, x3⟩ := hy
   refine ⟨x1, x2, ?_⟩
   show some g ≠ some y
   intro e
   injection e with e
   subst e
   rcases hor with hor | hor
   ·exact x3 hor
   ·omega
  have hkeep : ∀ y, (B0 ≤ y ∧ y ≠ b ∧ sv.ownBlock ≠ some y) → y < W.heap.size → (w1.setCell ⟨b, 4, none⟩ (.slice (some ⟨g, 0, none⟩) (xs.length + vs.length) cap)).heap[y]? = W.heap[y]? := by
   intro y hy hl
   obtain ⟨x1, x2, x3⟩ := hy
   rw [Below.heap_setCell w1 ⟨b, 4, none⟩ _ y x2]
   exact hg.block y hl (fun e => x3 e.symm)
  exact rep_app (hx.keep (by simp; exact hg.size) hkeep hS) (h3.keep (by simp; exact hg.size) hkeep hS)
theorem PG.hung {row : Option Nat} (h : PG w0 w wr br A c L i) (hw : PInv w0 w br A c L i') (o : Obj) (hg : (wr.alloc o).grownBy w1 row) (hr : ∀ k, row = some k → w.heap.size ≤ k) (hb : w.heap.size ≤ b) : PG w0 w (w1.setCell ⟨b, 4, none⟩ u) br A c L i :=
 ((h.alloc o).gfar hw hg hr).far hw hb 4 u
theorem kid_facts {W : World} {cs : Array Value} (m : Nat) (hm : W.heap.size = m) (hw : B ≤ W.heap.size) (hown : W.ownsRow B 31 1 sv xs.length xs) (hn : xs.length ≤ 1000000) (h1 : ∀ v ∈ cs.toList, v.oneCell' = true) (h2 : cs.size ≤ 1000) :
 Hid ((∀ i v, cs.toList[i]? = some v → (W.alloc (.cells cs 31)).cell? ((⟨m, 0, none⟩ : Addr).add i) = some v) ∧ (∀ v ∈ cs.toList, v.oneCell' = true) ∧ xs.length + cs.size ≤ maxLen ∧ B ≤ (W.alloc (.cells cs 31)).heap.size ∧ (W.alloc (.cells cs 31)).ownsRow B 31 1 sv xs.length xs) :=
 hm ▸ qh ⟨World.news_of_block (cs := cs) (heap_alloc_new W _), h1, by unfold maxLen; omega, by rw [World.size_alloc]; omega, hown.alloc _⟩
theorem one_ptr (p : Option Addr) : ∀ v ∈ (#[Value.pointer p] : Array Value).toList, v.oneCell' = true := fun v hv => by simp only [List.mem_singleton] at hv; subst hv; rfl
end
end St
namespace Tr
open Go.RowKit
open Fl
theorem new_bld (S : Nat → Prop) (kind p1 p2 : Nat) (name : ByteArray) (n : Int) (A : Option Addr) (c : Nat) (vs : List Value) (f : Fo) (w : World) (hv : vs.length ≤ 1000000) (hA : Reads w w.heap.size 1 A vs.length vs) (hk : RepN S w f vs) :
 Calls Tryz.prog 33 #[.int .u8 kind, .complex .f64 (fl p1) (fl p2), .string name, .int .i64 n, .slice A vs.length c] w fun e w' => ∃ b sv xs, e = .returned (.pointer (some ⟨b, 0, none⟩)) ∧ Bld S w w' b ⟨kind, (p1, p2), name, n⟩ sv f xs ∧ xs.length = vs.length := by
 have hk0 : RepN (fun x => S x ∧ x < w.heap.size) w f vs := hk.more fun x h hl => ⟨h, hl⟩
 have HA := qh hA
 have HK := qh hk0
 obtain ⟨i0, hi, hz0, hz1, hz2⟩ := info_parts info31
 clear hk hk0 hA
 go_enter Tryz.func33, Tryz.ntmps33
 go_wp2
 go_loopw [22] (fun i wr => ∃ (j : Nat) (sv : Value) (g r : Fo) (xs : List Value), j ≤ vs.length ∧ i = .int .i64 j ∧ xs.length = j ∧ Hid (Bld S w wr w.heap.size ⟨kind, (p1, p2), name, n⟩ sv g xs) ∧ Hid (f = g.app r) ∧ Hid (RepN (fun x => S x ∧ x < w.heap.size) wr r (vs.drop j)) ∧ Hid (Reads wr w.heap.size 1 A vs.length vs)) (fun i _ => vs.length - (intOf i).toNat)
 case atStart =>
  exact ⟨0, .slice none 0 0, .no, f, [], Nat.zero_le _, rfl, rfl, qh (Bld.start (Blk.new w 38 _) nl ((Below.refl _ _).alloc nl _)), qh rfl, qh (RepN.below ((Below.refl _ _).alloc nl _) HK.out), qh (HA.out.alloc nl _)⟩
 case round =>
  obtain ⟨j, sv, g, r, xs, hj, rfl, hxs, HB, HF, HR, HR2⟩ := hrel
  obtain ⟨m4, m4f, hbl⟩ := HB.out.sv
  by_cases hlt : j < vs.length
  ·obtain ⟨d1, k1, r1, rfl, g1, g2⟩ := HR.out.at_ hlt
   obtain ⟨b1, off, rfl, hcell⟩ := Reads.nth HR2.out hlt
   rcases g1 with ⟨g1, rfl, rfl⟩ | g1
   ·rw [g1] at hcell
    have hbel : Below wr.heap.size wr (wr.alloc (.cells #[.int .u8 0, .complex .f64 0 0, .string ⟨#[]⟩, .int .i64 0, .slice none 0 0] 38)) := (Below.refl _ _).alloc nl _
    have HB' := HB.out.below hbel
    have G1 := qh (HB.out.newer (zero_rep (S := fun x => wr.heap.size ≤ x) wr nl))
    have G2 := qh (g2.below hbel)
    have HR3 := qh (HR2.out.alloc (by omega) (.cells #[.int .u8 0, .complex .f64 0 0, .string ⟨#[]⟩, .int .i64 0, .slice none 0 0] 38))
    obtain ⟨z4, z4f, _⟩ := HB'.sv
    clear g1 g2 HR hbel
    have hown := HB'.own
    rw [hxs] at hown
    have q1 := World.news_of_block (cs := #[.pointer (some ⟨wr.heap.size, 0, none⟩)]) (t := 31) (fr := (0, 0)) (heap_alloc_new (wr.alloc (.cells #[.int .u8 0, .complex .f64 0 0, .string ⟨#[]⟩, .int .i64 0, .slice none 0 0] 38)) _)
    rw [show (wr.alloc (.cells #[.int .u8 0, .complex .f64 0 0, .string ⟨#[]⟩, .int .i64 0, .slice none 0 0] 38)).heap.size = wr.heap.size + 1 by simp] at q1
    have q2 : ∀ u ∈ [Value.pointer (some ⟨wr.heap.size, 0, none⟩)], u.oneCell' = true := by simp [Value.oneCell']
    have q3 : j + 1 ≤ maxLen := by unfold maxLen; omega
    have q5 : w.heap.size ≤ ((wr.alloc (.cells #[.int .u8 0, .complex .f64 0 0, .string ⟨#[]⟩, .int .i64 0, .slice none 0 0] 38)).alloc (.cells #[.pointer (some ⟨wr.heap.size, 0, none⟩)] 31)).heap.size := by simp; omega
    have hown2 := hown.alloc (.cells #[.pointer (some ⟨wr.heap.size, 0, none⟩)] 31)
    have Q := qh (And.intro q1 (And.intro q2 (And.intro q3 (And.intro q5 hown2))))
    clear q1 q2 q3 q5 hown2 hown
    have HBH := qh HB'
    clear HB'
    go_wp2_with (at_builtin; refine wpList_append_lies _ rfl _ _ _ rfl w.heap.size 31 i0 (.pointer none) 1 8 Tryz.underlying36 hi hz0 hz1 hz2 rfl (by omega) sv j xs rfl Q.out.2.2.2.2 ⟨wr.heap.size + 1, 0, none⟩ 1 1 [.pointer (some ⟨wr.heap.size, 0, none⟩)] rfl rfl Q.out.1 Q.out.2.1 (by omega) Q.out.2.2.1 (by omega) Q.out.2.2.2.1 (wr.heap.size + 1 + 1) (by simp) ?_)
    intro g' cap w1 hown1 hgrow hor hlt1
    obtain ⟨s4, s4f⟩ := Bld.after HBH.out hgrow
    have HO := qh (And.intro hown1 (And.intro hgrow hor))
    clear hown1 hgrow hor
    go_wp2
    go_roundw
    case rel =>
     refine ⟨j + 1, .slice (some ⟨g', 0, none⟩) (j + 1) cap, g.snoc zeroN .no, r1, xs ++ [.pointer (some ⟨wr.heap.size, 0, none⟩)], by omega, by go_num, by simp [hxs], qh ?_, qh (by rw [HF.out, Fo.snoc_app]), qh ?_, qh ?_⟩
     ·have hs := Bld.step (HBH.out.below ((Below.refl _ _).alloc nl _)) (G1.out.below ((Below.refl _ _).alloc nl (.cells #[.pointer (some ⟨wr.heap.size, 0, none⟩)] 31))) (by rw [hxs]; exact HO.out.1) HO.out.2.1 (by rcases HO.out.2.2 with h | h; exact .inl h; exact .inr (by rw [h]; simp))
      rw [hxs] at hs
      exact hs
     ·refine RepN.keep (w := (wr.alloc (.cells #[.int .u8 0, .complex .f64 0 0, .string ⟨#[]⟩, .int .i64 0, .slice none 0 0] 38))) ?_ ?_ G2.out
      ·have := HO.out.2.1.size; simp at this ⊢; omega
      ·intro x hx hl
       exact keep_old HBH.out HO.out.2.1 hx.2 hl
     ·refine HR3.out.keep fun p hp => World.cell?_of_block ?_
      exact keep_old HBH.out HO.out.2.1 hp (by have := HBH.out.bel.size; omega)
    case measure => simp [intOf]; omega
   ·obtain ⟨b2, _, _, _, hu, _⟩ := g1.rep.one
    rw [hu] at hcell g1
    have G1 := qh (Bld.older HB.out g1)
    have G2 := qh g2
    have HB' := HB.out
    have HR3 := HR2
    clear g1 g2 HR hu
    have hown := HB'.own
    rw [hxs] at hown
    have q1 := World.news_of_block (cs := #[.pointer (some ⟨b2, 0, none⟩)]) (t := 31) (fr := (0, 0)) (heap_alloc_new wr _)
    have q2 : ∀ u ∈ [Value.pointer (some ⟨b2, 0, none⟩)], u.oneCell' = true := by simp [Value.oneCell']
    have q3 : j + 1 ≤ maxLen := by unfold maxLen; omega
    have q5 : w.heap.size ≤ (wr.alloc (.cells #[.pointer (some ⟨b2, 0, none⟩)] 31)).heap.size := by simp; omega
    have hown2 := hown.alloc (.cells #[.pointer (some ⟨b2, 0, none⟩)] 31)
    have Q := qh (And.intro q1 (And.intro q2 (And.intro q3 (And.intro q5 hown2))))
    clear q1 q2 q3 q5 hown2 hown
    have HBH := qh HB'
    clear HB'
    go_wp2_with (at_builtin; refine wpList_append_lies _ rfl _ _ _ rfl w.heap.size 31 i0 (.pointer none) 1 8 Tryz.underlying36 hi hz0 hz1 hz2 rfl (by omega) sv j xs rfl Q.out.2.2.2.2 ⟨wr.heap.size, 0, none⟩ 1 1 [.pointer (some ⟨b2, 0, none⟩)] rfl rfl Q.out.1 Q.out.2.1 (by omega) Q.out.2.2.1 (by omega) Q.out.2.2.2.1 (wr.heap.size + 1) (by simp) ?_)
    intro g' cap w1 hown1 hgrow hor hlt1
    obtain ⟨s4, s4f⟩ := Bld.after HBH.out hgrow
    have HO := qh (And.intro hown1 (And.intro hgrow hor))
    clear hown1 hgrow hor
    go_wp2
    go_roundw
    case rel =>
     refine ⟨j + 1, .slice (some ⟨g', 0, none⟩) (j + 1) cap, g.snoc d1 k1, r1, xs ++ [.pointer (some ⟨b2, 0, none⟩)], by omega, by go_num, by simp [hxs], qh ?_, qh (by rw [HF.out, Fo.snoc_app]), qh ?_, qh ?_⟩
     ·have hs := Bld.step (HBH.out.below ((Below.refl _ _).alloc nl _)) (G1.out.below ((Below.refl _ _).alloc nl (.cells #[.pointer (some ⟨b2, 0, none⟩)] 31))) (by rw [hxs]; exact HO.out.1) HO.out.2.1 (by rcases HO.out.2.2 with h | h; exact .inl h; exact .inr (by rw [h]; simp))
      rw [hxs] at hs
      exact hs
     ·refine RepN.keep (w := wr) ?_ ?_ G2.out
      ·have := HO.out.2.1.size; simp at this ⊢; omega
      ·intro x hx hl
       exact keep_old HBH.out HO.out.2.1 hx.2 hl
     ·refine HR3.out.keep fun p hp => World.cell?_of_block ?_
      exact keep_old HBH.out HO.out.2.1 hp (by have := HBH.out.bel.size; omega)
    case measure => simp [intOf]; omega
  ·have he := HR.out.end_ hlt
   subst he
   have HD := qh HB.out
   have HG := qh (show f = g by rw [HF.out, Fo.app_no])
   clear HR HB HF
   go_wp2
   go_ret
   exact ⟨_, _, _, rfl, by rw [HG.out]; exact HD.out, by omega⟩
end Tr
namespace St
open Go.RowKit
open Tr (Nd Fo RepS RepN Rep cellsN)
open Lx (Tk noTk Blk run_store_complexL TokAt)
open Fl
open Ex
theorem new_kg {B0 : Nat} {w : World} (hw : B0 ≤ w.heap.size) (kI : Int) (kind : Nat) (hkI : kI = (kind : Int)) (p1 p2 : Nat) (name : ByteArray) (n : Int) (A' : Option Addr) (c' m : Nat) (vs : List Value) (l : List T1) (hm : vs.length = m) (hl : vs.length = l.length) (hv : m ≤ 1000000)
 (hA : Reads w w.heap.size 1 A' m vs) (hk : RepN (fun x => B0 ≤ x) w (forest l) vs) :
 Calls Tryz.prog 33 #[.int .u8 kI, .complex .f64 (fl p1) (fl p2), .string name, .int .i64 n, .slice A' m c'] w fun e w' =>
  ∃ b sv xs, e = .returned (.pointer (some ⟨b, 0, none⟩)) ∧ Below w.heap.size w w' ∧ KG B0 w.heap.size w' b ⟨kind, (p1, p2), name, n⟩ sv l xs := by
 subst hm hkI
 refine (Tr.new_bld _ kind p1 p2 name n A' c' vs (forest l) w hv hA hk).mono ?_
 rintro e w' ⟨b, sv, xs, rfl, h, hx⟩
 have hb := h.bel
 obtain ⟨h1, h2, h3, h4, h5⟩ := h
 refine ⟨b, sv, xs, rfl, hb, ⟨h1, h2, h4⟩, h3.more fun y hy _ => ⟨?_, hy.2⟩, by omega⟩
 rcases hy.1 with hy | hy <;> omega
theorem new_0 {B0 : Nat} {w : World} (hw : B0 ≤ w.heap.size) (kI : Int) (kind : Nat) (hkI : kI = (kind : Int)) (p1 p2 : Nat) (name : ByteArray) (n : Int) :
 Calls Tryz.prog 33 #[.int .u8 kI, .complex .f64 (fl p1) (fl p2), .string name, .int .i64 n, .slice none 0 0] w fun e w' =>
  ∃ b sv xs, e = .returned (.pointer (some ⟨b, 0, none⟩)) ∧ Below w.heap.size w w' ∧ KG B0 w.heap.size w' b ⟨kind, (p1, p2), name, n⟩ sv [] xs :=
 new_kg hw kI kind hkI p1 p2 name n none 0 0 [] [] rfl rfl (by decide) Reads.none_ (by unfold forest RepN; rfl)
theorem new_1 {B0 : Nat} {w : World} (hw : B0 ≤ w.heap.size) (kI : Int) (kind : Nat) (hkI : kI = (kind : Int)) (p1 p2 : Nat) (name : ByteArray) (n : Int) {x : T1} {bx : Nat} (hx : RepS (fun y => B0 ≤ y) w (.node x.1 x.2 .no) [.pointer (some ⟨bx, 0, none⟩)]) (m : Nat) (hm : w.heap.size = m) :
 Calls Tryz.prog 33 #[.int .u8 kI, .complex .f64 (fl p1) (fl p2), .string name, .int .i64 n, .slice (some ⟨m, 0, none⟩) 1 1] (w.alloc (.cells #[.pointer (some ⟨bx, 0, none⟩)] 31)) fun e w' =>
  ∃ b sv xs, e = .returned (.pointer (some ⟨b, 0, none⟩)) ∧ Below w.heap.size w w' ∧ KG B0 w.heap.size w' b ⟨kind, (p1, p2), name, n⟩ sv [x] xs := by
 subst hm
 have hb : Below w.heap.size w (w.alloc (.cells #[.pointer (some ⟨bx, 0, none⟩)] 31)) := (Below.refl _ _).alloc nl _
 refine (new_kg (B0 := B0) (Nat.le_trans hw hb.size) kI kind hkI p1 p2 name n (some ⟨w.heap.size, 0, none⟩) 1 1 [.pointer (some ⟨bx, 0, none⟩)] [x] rfl rfl (by decide) (reads_lit w _ _) (repN_of (hx.below hb))).mono ?_
 rintro e w' ⟨b, sv, xs, rfl, h, hk⟩
 exact ⟨b, sv, xs, rfl, hb.trans (h.mono hb.size), hk.lower hb.size⟩
end St
namespace St
open Go.RowKit
open Tr (Nd Fo RepS RepN Rep cellsN)
open Lx (Tk noTk Blk run_store_complexL TokAt)
open Fl
open Ex
attribute [local go_sem] run_store_complexL run_field1 run_field3
structure TkS (w0 : World) (br : Nat) (A : Option Addr) (L : List PT) : Prop where
 toks : Toks w0 br A L
 low : ∀ ad, A = some ad → ad.block < w0.heap.size
section
variable {α β : Type} {p : Par α} {q : α → Par β} {L : List PT} {i j k : Nat} {a : α}
theorem bind_ok (h : p L i = .ok (a, j)) : bindP p q L i = q a L j := by unfold bindP; rw [h]
theorem bind_err (h : p L i = .error k) : bindP p q L i = .error k := by unfold bindP; rw [h]
theorem need_y {s : ByteArray} {p : Par α} (h : isT L i s = true) : needF s p L i = p L (i + 1) := if_pos h
theorem need_n {s : ByteArray} {p : Par α} (h : isT L i s = false) : needF s p L i = .error i := if_neg (show ¬ isT L i s = true by rw [h]; simp)
theorem tok_y {t : PT → Bool} {A : PT → Par α} {B : Par α} (h : t (tk L i) = true) : tokP t A B L i = A (tk L i) L (i + 1) := if_pos h
theorem tok_n {t : PT → Bool} {A : PT → Par α} {B : Par α} (h : t (tk L i) = false) : tokP t A B L i = B L i := if_neg (by rw [h]; simp)
theorem ret_ : retP a L i = .ok (a, i) := rfl
end
theorem add_block (ad : Addr) (j : Nat) : (ad.add j).block = ad.block := by unfold Addr.add; split <;> rfl
theorem row_at {w0 w : World} {br c i : Nat} {A : Option Addr} {L : List PT} (ht : TkS w0 br A L) (h : PInv w0 w br A c L i) : RowAt w A L := by
 refine ⟨⟨ht.toks.reads.1, fun h0 => ?_⟩, fun ad e => Nat.lt_of_lt_of_le (ht.low ad e) h.grown.size, ht.toks.len⟩
 obtain ⟨ad, e, hlt, hc⟩ := ht.toks.reads.2 h0
 refine ⟨ad, e, Nat.lt_of_lt_of_le hlt h.grown.size, fun j u hu => ?_⟩
 rw [← hc j u hu]
 have hne := ht.toks.far _ e
 exact World.cell?_of_block (by rw [add_block]; exact h.grown.block ad.block hlt (fun e => hne (by simpa using e)))
theorem new_lit {B : Nat} {w : World} (hw : B ≤ w.heap.size) (kI : Int) (kind : Nat) (hkI : kI = (kind : Int)) (p1 p2 : Nat) (name : ByteArray) (vs : List Value) (l : List T1) (m : Nat) (hm : w.heap.size = m) (n : Nat) (hn : vs.length = n) (hv : n ≤ 1000) (hk : RepN (fun x => B ≤ x) w (forest l) vs) :
 Calls Tryz.prog 33 #[.int .u8 kI, .complex .f64 (fl p1) (fl p2), .string name, .int .i64 0, .slice (some ⟨m, 0, none⟩) n n] (w.alloc (.cells vs.toArray 31)) fun e w' =>
  ∃ b, e = .returned (.pointer (some ⟨b, 0, none⟩)) ∧ Below w.heap.size w w' ∧ RepS (fun x => B ≤ x) w' (.node (mk kind (p1, p2) name 0 l).1 (mk kind (p1, p2) name 0 l).2 .no) [.pointer (some ⟨b, 0, none⟩)] := by
 subst hm hn
 have hb : Below w.heap.size w (w.alloc (.cells vs.toArray 31)) := (Below.refl _ _).alloc nl _
 refine (new_at (B := B) (Nat.le_trans hw hb.size) kI kind hkI p1 p2 name 0 (some ⟨w.heap.size, 0, none⟩) vs.length vs.length vs (forest l) rfl (by omega) (by have := reads_lit w vs.toArray 31; simpa using this) (hk.below hb)).mono ?_
 rintro e w' ⟨b, rfl, h, hr⟩
 exact ⟨b, rfl, hb.trans (h.mono hb.size), hr⟩
theorem of_fn {F : Nat} (hev : ∀ args w, (callFunc F args).run Tryz.prog w = .ok (.enter F args) w) {w0 : World} {br c : Nat} {A : Option Addr} {L : List PT} (ht : TkS w0 br A L) {r : Except Nat (T1 × Nat)} (i : Nat) (hi : i ≤ L.length) (w : World) (h : PInv w0 w br A c L i)
 (d1 : RowAt w.drew A L → Calls Tryz.prog F #[.slice A L.length c, .int .i64 i] w.drew (ParR w.drew r)) :
 Calls Tryz.prog 136 #[.pointer (some ⟨br, 0, none⟩), .func (.func F) #[] #[]] w (TreeR w.heap.size w0 w br A c L r) := by
 have hbr0 := h.row.lt
 have hlen := ht.toks.len
 have d1 := d1 (row_at ht (h.below ((Below.refl _ _).drew)))
 have m0 : w.cell? ⟨br, 0, none⟩ = some (.slice A L.length c) := h.row.cell 0
 obtain ⟨m1, f1, hlt⟩ := h.at_
 have H := qh (PG.start h)
 have x0 : (0 : Int) ≤ (i : Int) := by omega
 cases r with
 | error k9 =>
   have D1 := qh d1
   clear d1 h ht
   go_enter Tryz.func136, Tryz.ntmps136
   go_wp2
   go_region_law (first
    | (go_simp; (with_reducible refine D1.out.mono ?_); rintro e x ⟨rfl, hb⟩; have HX := qh (H.out.below ((Below.refl _ _).drew.trans (hb.mono nl))); clear hb))
   all_goals
    go_wp2
    exact ⟨rfl, rfl, HX.out.2⟩
 | ok r =>
   obtain ⟨y, j⟩ := r
   have D1 := qh d1
   clear d1 h ht
   go_enter Tryz.func136, Tryz.ntmps136
   go_wp2
   go_region_law (first
    | (go_simp; (with_reducible refine D1.out.mono ?_); rintro e x ⟨b, rfl, hr, hb⟩; have HX := qh (H.out.below ((Below.refl _ _).drew.trans (hb.mono nl))); have HR := qh (show RepS (fun y => w.heap.size ≤ y) x _ _ from hr); clear hb hr; obtain ⟨z1, zf1, hzl⟩ := HX.out.1.at_))
   all_goals
    have H2 := qh (HX.out.set_ j)
    have HR2 := qh (HR.out.keep (by rw [World.size_setCell]; exact Nat.le_refl _) (fun y hy _ => Below.heap_setCell _ ⟨br, 1, none⟩ (.int .i64 j) y (show y ≠ br by omega)) (fun y h _ => h))
    go_wp2
    go_ret
    exact ⟨b, rfl, H2.out.1, H2.out.2, HR2.out⟩
section
variable {g : Nat} {w0 : World} {br c : Nat} {A : Option Addr} {L : List PT} (ht : TkS w0 br A L) (hg : L.length < g) (i : Nat) (hi : i ≤ L.length) (w : World) (h : PInv w0 w br A c L i)
include ht hg hi h
theorem of_E : Calls Tryz.prog 136 #[.pointer (some ⟨br, 0, none⟩), .func (.func 99) #[] #[]] w (TreeR w.heap.size w0 w br A c L (exprF g L i)) :=
 of_fn (by intro _ _; kernel_rfl) ht i hi w h fun hr => ExprY hr hg c hi
theorem of_D : Calls Tryz.prog 136 #[.pointer (some ⟨br, 0, none⟩), .func (.func 139) #[] #[]] w (TreeR w.heap.size w0 w br A c L (designF (exprF g) g L i)) :=
 of_fn (by intro _ _; kernel_rfl) ht i hi w h fun hr => DesignY hr hg c hi
theorem of_L : Calls Tryz.prog 136 #[.pointer (some ⟨br, 0, none⟩), .func (.func 137) #[] #[]] w (TreeR w.heap.size w0 w br A c L (labelsF g L i)) :=
 of_fn (by intro _ _; kernel_rfl) ht i hi w h fun hr => LabelsY hr hg c hi
end
theorem expr_s {g : Nat} {w0 : World} {br c : Nat} {A : Option Addr} {L : List PT} (ht : TkS w0 br A L) (hg : L.length < g) (i : Nat) (hi : i ≤ L.length) (w : World) (h : PInv w0 w br A c L i) :
 Calls Tryz.prog 133 #[.pointer (some ⟨br, 0, none⟩)] w (TreeR w.heap.size w0 w br A c L (exprF g L i)) := by
 have d1 := of_E ht hg i hi w h
 clear h ht
 cases hx : exprF g L i with
 | error k9 =>
   rw [hx] at d1
   have D1 := qh d1
   clear d1 hx
   go_enter Tryz.func133, Tryz.ntmps133
   go_wp2_with fail
   ((with_reducible refine D1.out.mono ?_); rintro e w1 ⟨rfl, hb⟩)
   have HB := qh hb
   clear hb
   go_wp2
   exact ⟨rfl, rfl, HB.out⟩
 | ok r =>
   obtain ⟨y, j⟩ := r
   rw [hx] at d1
   have D1 := qh d1
   clear d1 hx
   go_enter Tryz.func133, Tryz.ntmps133
   go_wp2_with fail
   ((with_reducible refine D1.out.mono ?_); rintro e w1 ⟨b, rfl, hp, hgr, hr⟩)
   have HB := qh (And.intro hp (And.intro hgr hr))
   clear hp hgr hr
   go_wp2
   go_ret
   exact ⟨b, rfl, HB.out.1, HB.out.2.1, HB.out.2.2⟩
def endedF (bd : Par T1) : Par T1 := bindP bd fun b => needF sEnd (retP b)
theorem endedF_then {bd : Par T1} {k : Nat} {p : Nat × Nat} {n : ByteArray} {f : T1 → List T1} {L : List PT} {i : Nat} : bindP bd (fun b => endS k p n (f b)) L i = bindP (endedF bd) (fun b => retP (mk k p n 0 (f b))) L i := by
 unfold endedF bindP
 cases bd L i with
 | error k => rfl
 | ok r =>
   obtain ⟨b, j⟩ := r
   unfold endS needF tokP retP failP
   dsimp only
   split <;> rfl
theorem g2_endedF {bd : Par T1} (h : Good2 bd) : Good2 (endedF bd) := g2_bind h fun b => g2_need (g2_ret _)
end St
end Go.Proofs.YtkemhmfdooghkaaGreatDoor
