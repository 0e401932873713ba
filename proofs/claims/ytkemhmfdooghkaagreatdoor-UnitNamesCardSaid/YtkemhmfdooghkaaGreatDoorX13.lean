import Derived.Test.YtkemhmfdooghkaaGreatDoorX12
set_option linter.unusedSimpArgs false
set_option linter.unusedVariables false
set_option maxRecDepth 100000
set_option maxHeartbeats 6400000
namespace Go.Proofs.YtkemhmfdooghkaaGreatDoor
namespace Ex
open Go.RowKit
open Tr (Nd Fo RepS)
open Lx (Tk noTk Blk run_store_complexL TokAt)
open Fl
attribute [local go_sem] run_store_complexL
abbrev bad (k : Nat) : Ending := .panicked [{ v := .iface 151 (.int .i64 k), recovered := false }]
def TreeR (B : Nat) (w0 w : World) (br : Nat) (A : Option Addr) (c : Nat) (L : List PT) (r : Except Nat (T1 × Nat)) (e : Ending) (w' : World) : Prop := match r with
 | .ok (x, j) => ∃ b, e = .returned (.pointer (some ⟨b, 0, none⟩)) ∧ PInv w0 w' br A c L j ∧ w.grownBy w' (some br) ∧ RepS (fun y => B ≤ y) w' (.node x.1 x.2 .no) [.pointer (some ⟨b, 0, none⟩)]
 | .error k => e = bad k ∧ w.grownBy w' (some br)
section
variable {w0 w w' : World} {br c i i' : Nat} {A : Option Addr} {L : List PT}
theorem PInv.at_ (h : PInv w0 w br A c L i) : w.cell? ⟨br, 1, none⟩ = some (.int .i64 i) ∧ w.frozen? ⟨br, 1, none⟩ = false ∧ br < w.heap.size := ⟨h.row.cell 1, h.row.frozen 1, h.row.lt⟩
theorem PInv.set_ (h : PInv w0 w br A c L i) (j : Nat) : PInv w0 (w.setCell ⟨br, 1, none⟩ (.int .i64 j)) br A c L j ∧ w.grownBy (w.setCell ⟨br, 1, none⟩ (.int .i64 j)) (some br) := by
 have hg := Lx.grown_set w br 1 (.int .i64 j)
 refine ⟨⟨?_, grown_trans h.grown hg⟩, hg⟩
 have := h.row.set_ 1 (.int .i64 j)
 simpa using this
structure PG (w0 w w1 : World) (br : Nat) (A : Option Addr) (c : Nat) (L : List PT) (i : Nat) : Prop where
 inv : PInv w0 w1 br A c L i
 since : w.grownBy w1 (some br)
theorem PG.far {w1 : World} (h : PG w0 w w1 br A c L i) (hw : PInv w0 w br A c L i') {b : Nat} (hb : w.heap.size ≤ b) (o : Nat) (u : Value) : PG w0 w (w1.setCell ⟨b, o, none⟩ u) br A c L i := by
 have hl := hw.row.lt
 have hs := hw.grown.size
 have hg := Lx.grown_set w1 b o u
 have hk : ∀ (a : World), a.heap.size ≤ b → a.grownBy w1 (some br) → a.grownBy (w1.setCell ⟨b, o, none⟩ u) (some br) := fun a ha h =>
  ⟨h.os, h.tape, h.output, by rw [World.size_setCell]; exact h.size, fun k hk hr => (hg.block k (Nat.lt_of_lt_of_le hk h.size) (fun e => by injection e with e; omega)).trans (h.block k hk hr)⟩
 exact ⟨⟨h.1.row.far (show br ≠ b by omega) u, hk w0 (by omega) h.1.grown⟩, hk w hb h.2⟩
theorem PG.below {w1 w2 : World} (h : PG w0 w w1 br A c L i) (hb : Below w1.heap.size w1 w2) : PG w0 w w2 br A c L i := ⟨h.1.below hb, grown_trans h.2 (grown_of_below hb _)⟩
theorem PG.set_ {w1 : World} (h : PG w0 w w1 br A c L i) (j : Nat) : PG w0 w (w1.setCell ⟨br, 1, none⟩ (.int .i64 j)) br A c L j := ⟨(h.1.set_ j).1, grown_trans h.2 (h.1.set_ j).2⟩
theorem PG.store5 {w1 : World} (h : PG w0 w w1 br A c L i) (hw : PInv w0 w br A c L i') {b : Nat} (hb : w.heap.size ≤ b) (x0 x1 x2 x3 x4 : Value) :
 PG w0 w (((((w1.setCell ⟨b, 0, none⟩ x0).setCell ⟨b, 1, none⟩ x1).setCell ⟨b, 2, none⟩ x2).setCell ⟨b, 3, none⟩ x3).setCell ⟨b, 4, none⟩ x4) br A c L i :=
 ((((h.far hw hb _ _).far hw hb _ _).far hw hb _ _).far hw hb _ _).far hw hb _ _
end
theorem isT_lt {L : List PT} {i : Nat} {s : ByteArray} (h : isT L i s = true) : i < L.length := by
 rcases Nat.lt_or_ge i L.length with h1 | h1
 ·exact h1
 ·unfold isT tk at h
  rw [List.getElem?_eq_none h1] at h
  simp [isSW, noPT, noTk] at h
theorem eat_no {w0 : World} {br c i : Nat} {A : Option Addr} {L : List PT} (ht : Toks w0 br A L) (hi : i ≤ 900000) (s : ByteArray) (w : World) (h : PInv w0 w br A c L i) (hT : isT L i s = false) :
 Calls Tryz.prog 144 #[.pointer (some ⟨br, 0, none⟩), .string s] w fun e w' => e = .returned (.bool false) ∧ PInv w0 w' br A c L i ∧ w.grownBy w' (some br) := by
 have n1 := is_any ht (by omega) s w h
 rw [hT] at n1
 have N1 := qh n1
 have H := qh h
 clear h ht n1
 go_enter Tryz.func144, Tryz.ntmps144
 go_wp2_with fail
 ((with_reducible refine N1.out.mono ?_); rintro e w1 ⟨rfl, hb⟩)
 have HP := qh (H.out.below hb)
 have HG := qh (grown_of_below hb (some br))
 clear hb N1 H
 go_wp2
 go_ret
 exact ⟨rfl, HP.out, HG.out⟩
theorem eat_yes {w0 : World} {br c i : Nat} {A : Option Addr} {L : List PT} (ht : Toks w0 br A L) (hi : i ≤ 900000) (s : ByteArray) (w : World) (h : PInv w0 w br A c L i) (hT : isT L i s = true) :
 Calls Tryz.prog 144 #[.pointer (some ⟨br, 0, none⟩), .string s] w fun e w' => e = .returned (.bool true) ∧ PInv w0 w' br A c L (i + 1) ∧ w.grownBy w' (some br) := by
 have n1 := is_any ht (by omega) s w h
 rw [hT] at n1
 have N1 := qh n1
 have H := qh h
 clear h ht n1
 go_enter Tryz.func144, Tryz.ntmps144
 go_wp2_with fail
 ((with_reducible refine N1.out.mono ?_); rintro e w1 ⟨rfl, hb⟩)
 have HP := qh (H.out.below hb)
 have HG := qh (grown_of_below hb (some br))
 clear hb N1 H
 obtain ⟨m1, f1, hlt⟩ := HP.out.at_
 have x0 : (0 : Int) ≤ (i : Int) := by omega
 go_wp2
 go_ret
 obtain ⟨hp, hg⟩ := HP.out.set_ (i + 1)
 exact ⟨rfl, hp, grown_trans HG.out hg⟩
theorem need_ok {w0 : World} {br c i : Nat} {A : Option Addr} {L : List PT} (ht : Toks w0 br A L) (hi : i ≤ 900000) (s : ByteArray) (w : World) (h : PInv w0 w br A c L i) (hT : isT L i s = true) :
 Calls Tryz.prog 159 #[.pointer (some ⟨br, 0, none⟩), .string s] w fun e w' => e = .returned (.tuple #[]) ∧ PInv w0 w' br A c L (i + 1) ∧ w.grownBy w' (some br) := by
 have N1 := qh (eat_yes ht hi s w h hT)
 clear h ht
 go_enter Tryz.func159, Tryz.ntmps159
 go_wp2_with fail
 ((with_reducible refine N1.out.mono ?_); rintro e w1 ⟨rfl, hp, hg⟩)
 have HP := qh hp
 have HG := qh hg
 clear hp hg
 go_wp2
 go_end0
 exact ⟨rfl, HP.out, HG.out⟩
theorem need_no {w0 : World} {br c i : Nat} {A : Option Addr} {L : List PT} (ht : Toks w0 br A L) (hi : i ≤ 900000) (s : ByteArray) (w : World) (h : PInv w0 w br A c L i) (hT : isT L i s = false) :
 Calls Tryz.prog 159 #[.pointer (some ⟨br, 0, none⟩), .string s] w fun e w' => e = bad i ∧ w.grownBy w' (some br) := by
 have N1 := qh (eat_no ht hi s w h hT)
 clear h ht
 go_enter Tryz.func159, Tryz.ntmps159
 go_wp2_with fail
 ((with_reducible refine N1.out.mono ?_); rintro e w1 ⟨rfl, hp, hg⟩)
 obtain ⟨m1, f1, hlt⟩ := hp.at_
 have HG := qh hg
 clear hp hg
 go_wp2
 exact ⟨rfl, rfl, HG.out⟩
theorem name_ok {w0 : World} {br c i : Nat} {A : Option Addr} {L : List PT} (ht : Toks w0 br A L) (hi : i ≤ 900000) (w : World) (h : PInv w0 w br A c L i) (hT : (tk L i).1.kind = 1) :
 Calls Tryz.prog 170 #[.pointer (some ⟨br, 0, none⟩)] w fun e w' => e = .returned (PT.val (tk L i)) ∧ PInv w0 w' br A c L (i + 1) ∧ w.grownBy w' (some br) := by
 have hbA : Below w.heap.size w (w.alloc zeroB) := (Below.refl w.heap.size w).alloc nl _
 have N1 := qh (now_any ht (by omega) _ (h.below hbA))
 have H := qh h
 have HBA := qh hbA
 have hB := Blk.new w 40 #[.int .u8 0, .complex .f64 0 0, .complex .f64 0 0, .string ⟨#[]⟩, .int .i64 0]
 have HB := qh hB
 obtain ⟨k, p1, p2, q1, q2, t, n, e1, e2⟩ := val_form (tk L i)
 rw [e1] at hT
 simp only at hT
 subst hT
 rw [e2] at N1 ⊢
 have hal : w.heap.size < (w.alloc zeroB).heap.size := by rw [World.size_alloc]; exact Nat.lt_succ_self _
 clear hbA hB h e1 e2 ht
 go_enter Tryz.func170, Tryz.ntmps170
 go_wp2_with fail
 ((with_reducible refine N1.out.mono ?_); rintro e w1 ⟨rfl, hb⟩)
 have hp := (H.out.below HBA.out).below hb
 have hbk := HB.out.below hb hal
 have hbl : Below w.heap.size w w1 := HBA.out.trans (hb.mono (Nat.le_of_lt hal))
 obtain ⟨m1, f1, hlt⟩ := hp.at_
 obtain ⟨z0, z1, z2, z3, z4, g0, g1, g2, g3, g4⟩ := hbk.tok
 have HP := qh hp
 have HBK := qh hbk
 have HBL := qh hbl
 have hbr := H.out.row.lt
 have x0 : (0 : Int) ≤ (i : Int) := by omega
 have hlt2 := hbk.lt
 clear hp hbk hbl hb HB HBA N1
 go_wp2
 have hPG := ((show PG w0 w w1 br A c L i from ⟨HP.out, grown_of_below HBL.out _⟩).set_ (i + 1))
 have hPG2 := (hPG.store5 H.out nl (.int .u8 1) (.complex .f64 (fl p1) (fl p2)) (.complex .f64 (fl q1) (fl q2)) (.string t) (.int .i64 n)).below ((Below.refl _ _).alloc nl (.cells #[.int .u8 1, .complex .f64 (fl p1) (fl p2), .complex .f64 (fl q1) (fl q2), .string t, .int .i64 n] 40))
 refine bodyPost_ret (Lx.tok_ret1 rfl _ _ w.heap.size _ _ _ _ _ rfl ((Lx.tok_stored (HBK.out.far (p := ⟨br, 1, none⟩) (Nat.ne_of_gt hbr) _) _ _ _ _ _).alloc _)) rfl ?_
 exact ⟨rfl, hPG2.1, hPG2.2⟩
theorem name_no {w0 : World} {br c i : Nat} {A : Option Addr} {L : List PT} (ht : Toks w0 br A L) (hi : i ≤ 900000) (w : World) (h : PInv w0 w br A c L i) (hT : ¬ (tk L i).1.kind = 1) :
 Calls Tryz.prog 170 #[.pointer (some ⟨br, 0, none⟩)] w fun e w' => e = bad i ∧ w.grownBy w' (some br) := by
 have hbA : Below w.heap.size w (w.alloc zeroB) := (Below.refl w.heap.size w).alloc nl _
 have N1 := qh (now_any ht (by omega) _ (h.below hbA))
 have H := qh h
 have HBA := qh hbA
 obtain ⟨k, p1, p2, q1, q2, t, n, e1, e2⟩ := val_form (tk L i)
 rw [e1] at hT
 simp only at hT
 rw [e2] at N1
 have k1 : ((k : Int) == 1) = false := by simp only [beq_eq_false_iff_ne, ne_eq]; omega
 have k2 : ((k : Int) != 1) = true := by simp [bne, k1]
 have hal : w.heap.size < (w.alloc zeroB).heap.size := by rw [World.size_alloc]; exact Nat.lt_succ_self _
 clear hbA h e1 e2 ht hT
 go_enter Tryz.func170, Tryz.ntmps170
 go_wp2_with fail
 ((with_reducible refine N1.out.mono ?_); rintro e w1 ⟨rfl, hb⟩)
 have hp := (H.out.below HBA.out).below hb
 have hbl : Below w.heap.size w w1 := HBA.out.trans (hb.mono (Nat.le_of_lt hal))
 obtain ⟨m1, f1, hlt⟩ := hp.at_
 have HBL := qh hbl
 clear hp hbl hb HBA N1 H
 go_wp2
 exact ⟨rfl, rfl, grown_of_below (HBL.out.alloc HBL.out.size _) _⟩
end Ex
namespace Ex
open Go.RowKit
open Tr (Nd Fo RepS RepN)
open Lx (Tk noTk Blk run_store_complexL TokAt)
open Fl
attribute [local go_sem] run_store_complexL
theorem run_field1 (v0 v1 v2 v3 v4 : Value) (w : World) : (Instr.field 40 (.agg #[v0, v1, v2, v3, v4]) 1).run Tryz.prog w = .ok v1 w := by kernel_rfl
theorem run_field3 (v0 v1 v2 v3 v4 : Value) (w : World) : (Instr.field 40 (.agg #[v0, v1, v2, v3, v4]) 3).run Tryz.prog w = .ok v3 w := by kernel_rfl
attribute [local go_sem] run_field1 run_field3
section
variable {w0 w w1 w2 : World} {br c i j : Nat} {A : Option Addr} {L : List PT}
theorem reads_lit (w : World) (cs : Array Value) (t : TypeId) : Reads (w.alloc (.cells cs t)) (w.alloc (.cells cs t)).heap.size 1 (some ⟨w.heap.size, 0, none⟩) cs.size cs.toList := by
 refine ⟨by simp, fun _ => ⟨_, rfl, by rw [World.size_alloc]; exact Nat.lt_succ_self _, ?_⟩⟩
 exact World.news_of_block (heap_alloc_new w _)
theorem repN_of {S : Nat → Prop} : ∀ {f : Fo} {vs : List Value}, RepS S w f vs → RepN S w f vs
 | .no, vs, h => by unfold RepS at h; unfold RepN; exact h
 | .node d k r, vs, h => by
   unfold RepS at h
   obtain ⟨b, A, c, ks, vs', rfl, h2, h3, h4, h5, h6, h7⟩ := h
   unfold RepN
   refine ⟨_, vs', rfl, .inr ?_, repN_of h7⟩
   unfold RepS
   exact ⟨b, A, c, ks, [], rfl, h2, h3, h4, h5, h6, by unfold RepS; rfl⟩
theorem repS_grown {B : Nat} {f : Fo} {vs : List Value} (h : RepS (fun x => B ≤ x) w f vs) (hg : w.grownBy w1 (some br)) (hbr : br < B) : RepS (fun x => B ≤ x) w1 f vs :=
 h.keep hg.size (fun x hx hl => hg.block x hl (fun e => by injection e with e; omega)) (fun x h _ => h)
theorem repS_cons {S : Nat → Prop} {d : Nd} {k : Fo} {v : Value} {f : Fo} {vs : List Value} (h1 : RepS S w (.node d k .no) [v]) (h2 : RepS S w f vs) : RepS S w (.node d k f) (v :: vs) := by
 unfold RepS at h1 ⊢
 obtain ⟨b, A, c, ks, vs', e, g2, g3, g4, g5, g6, g7⟩ := h1
 unfold RepS at g7
 subst g7
 injection e with e
 exact ⟨b, A, c, ks, vs, by rw [e], g2, g3, g4, g5, g6, h2⟩
theorem PG.trans (h : PG w0 w w1 br A c L i) (h2 : PInv w0 w2 br A c L j ∧ w1.grownBy w2 (some br)) : PG w0 w w2 br A c L j := ⟨h2.1, grown_trans h.2 h2.2⟩
theorem PG.start (h : PInv w0 w br A c L i) : PG w0 w w br A c L i := ⟨h, ⟨rfl, rfl, rfl, Nat.le_refl _, fun _ _ _ => rfl⟩⟩
theorem PG.alloc (h : PG w0 w w1 br A c L i) (o : Obj) : PG w0 w (w1.alloc o) br A c L i := h.below ((Below.refl _ _).alloc nl _)
end
theorem new_at {B : Nat} {w : World} (hw : B ≤ w.heap.size) (kI : Int) (kind : Nat) (hkI : kI = (kind : Int)) (p1 p2 : Nat) (name : ByteArray) (n : Int) (A' : Option Addr) (c' m : Nat) (vs : List Value) (f : Fo) (hm : vs.length = m) (hv : m ≤ 1000000)
 (hA : Reads w w.heap.size 1 A' m vs) (hk : RepN (fun x => B ≤ x) w f vs) :
 Calls Tryz.prog 33 #[.int .u8 kI, .complex .f64 (fl p1) (fl p2), .string name, .int .i64 n, .slice A' m c'] w fun e w' =>
  ∃ b, e = .returned (.pointer (some ⟨b, 0, none⟩)) ∧ Below w.heap.size w w' ∧ RepS (fun x => B ≤ x) w' (.node ⟨kind, (p1, p2), name, n⟩ f .no) [.pointer (some ⟨b, 0, none⟩)] := by
 subst hm hkI
 refine (Tr.new_any _ kind p1 p2 name n A' c' vs f w hv hA hk).mono ?_
 rintro e w' ⟨u, rfl, hb, hr⟩
 obtain ⟨b, _, _, _, rfl, _⟩ := hr.rep.one
 exact ⟨b, rfl, hb, hr.more fun x hx _ => by rcases hx with hx | hx <;> omega⟩
theorem dot_any {w0 : World} {br c i : Nat} {A : Option Addr} {L : List PT} (ht : Toks w0 br A L) (hi : i ≤ 800000) (x : T1) (bx : Nat) (w : World) (h : PInv w0 w br A c L i) {B : Nat} (hBr : br < B) (hBw : B ≤ w.heap.size)
 (hx : RepS (fun y => B ≤ y) w (.node x.1 x.2 .no) [.pointer (some ⟨bx, 0, none⟩)]) (hT : isT L i sDot = true) :
 Calls Tryz.prog 168 #[.pointer (some ⟨br, 0, none⟩), .pointer (some ⟨bx, 0, none⟩)] w (TreeR B w0 w br A c L (dotP L x i)) := by
 have n1 := now_any ht (by omega) w h
 obtain ⟨k, p1, p2, q1, q2, t, n, e1, e2⟩ := val_form (tk L i)
 have hp : pos L i = (p1, p2) := by unfold pos; rw [e1]
 rw [e2] at n1
 have N1 := qh n1
 have ND := qh (fun w h => need_ok ht (i := i) (by omega) (c := c) sDot w h hT)
 have H := qh (PG.start h)
 have HX := qh hx
 clear n1 e1 e2 h hx
 by_cases hk : (tk L (i + 1)).1.kind = 1
 ·obtain ⟨k2, a1, a2, b1, b2, t2, n2, e3, e4⟩ := val_form (tk L (i + 1))
  have HS := qh (show dotP L x i = .ok ((⟨2, (p1, p2), t2, 0⟩, .node x.1 x.2 .no), i + 1 + 1) from by
   unfold dotP need nameP
   rw [if_pos hT]
   dsimp only
   rw [if_pos hk]
   dsimp only
   rw [e3, hp]
   rfl)
  have NM := qh (fun w h => name_ok ht (i := i + 1) (by omega) (c := c) w h hk)
  rw [e4] at NM
  clear ht hk hp hT e3 e4
  go_enter Tryz.func168, Tryz.ntmps168
  go_wp2_with fail
  ((with_reducible refine N1.out.mono ?_); rintro e w1 ⟨rfl, hb⟩)
  have H := qh (H.out.below hb)
  clear hb
  go_wp2_with fail
  ((with_reducible refine (ND.out _ H.out.1).mono ?_); rintro e w2 ⟨rfl, hb⟩)
  have H := qh (H.out.trans hb)
  clear hb
  go_wp2_with fail
  ((with_reducible refine (NM.out _ H.out.1).mono ?_); rintro e w3 ⟨rfl, hb⟩)
  have H := qh (H.out.trans hb)
  have HX3 := qh (repS_grown HX.out H.out.2 hBr)
  have NW := qh (new_at (B := B) (w := w3.alloc (.cells #[.pointer (some ⟨bx, 0, none⟩)] 31)) (by have := H.out.2.size; rw [World.size_alloc]; omega) 2 2 rfl p1 p2 t2 0 (some ⟨w3.heap.size, 0, none⟩) 1 1 [.pointer (some ⟨bx, 0, none⟩)] (.node x.1 x.2 .no) rfl (by omega) (reads_lit w3 #[.pointer (some ⟨bx, 0, none⟩)] _) (repN_of (HX3.out.below ((Below.refl _ _).alloc nl _))))
  clear hb
  go_wp2_with fail
  ((with_reducible refine NW.out.mono ?_); rintro e w4 ⟨b, rfl, hb, hr⟩)
  have H := qh ((H.out.alloc _).below hb)
  have HR := qh hr
  clear hb hr
  go_wp2
  go_ret
  rw [HS.out]
  exact ⟨b, rfl, H.out.1, H.out.2, HR.out⟩
 ·have HS := qh (show dotP L x i = .error (i + 1) by
   unfold dotP need nameP
   rw [if_pos hT]
   dsimp only
   rw [if_neg hk])
  have NM := qh (fun w h => name_no ht (i := i + 1) (by omega) (c := c) w h hk)
  clear ht hk hp hT
  go_enter Tryz.func168, Tryz.ntmps168
  go_wp2_with fail
  ((with_reducible refine N1.out.mono ?_); rintro e w1 ⟨rfl, hb⟩)
  have H := qh (H.out.below hb)
  clear hb
  go_wp2_with fail
  ((with_reducible refine (ND.out _ H.out.1).mono ?_); rintro e w2 ⟨rfl, hb⟩)
  have H := qh (H.out.trans hb)
  clear hb
  go_wp2_with fail
  ((with_reducible refine (NM.out _ H.out.1).mono ?_); rintro e w3 ⟨rfl, hb⟩)
  have H3 := qh (grown_trans H.out.2 hb)
  clear hb
  go_wp2
  refine ⟨rfl, ?_⟩
  rw [HS.out]
  exact ⟨rfl, H3.out⟩
end Ex
namespace Ex
open Go.RowKit
open Tr (Nd Fo RepS RepN Rep cellsN)
open Lx (Tk noTk Blk run_store_complexL bt)
open Fl
attribute [local go_sem] run_store_complexL run_field1 run_field3
theorem ofNat48 (n : Nat) : UInt8.ofNat (48 + n) = 48 + UInt8.ofNat n := UInt8.ofNat_add 48 n
def digN (n : Nat) : List UInt8 := if n = 0 then [] else Lib.decDigits n
theorem digN_step (m : Nat) (h : 0 < m) (l : List UInt8) : digN m ++ l = digN (m / 10) ++ (48 + UInt8.ofNat (m % 10)) :: l := by
 unfold digN
 rw [if_neg (by omega)]
 by_cases h9 : 9 < m
 ·rw [if_neg (by omega), Num.dec_big m h9, ofNat48]; simp
 ·rw [if_pos (by omega), Num.dec_small m h9, ofNat48, show m % 10 = m by omega]; rfl
theorem conv_one (W : World) (z : Int) (h0 : 0 ≤ z) (h1 : z < 256) : (convert 22 9 (.slice (some ⟨W.heap.size, 0, none⟩) 1 1)).run Tryz.prog (W.alloc (.cells #[.int .u8 z] 5)) = .ok (.string ⟨#[UInt8.ofNat z.toNat]⟩) (W.alloc (.cells #[.int .u8 z] 5)) := by
 rw [run_convert_bytes_string _ _ _ _ _ _ _ Tryz.underlying22 Tryz.underlying5 Tryz.underlying9]
 rw [run_bytesToString _ _ _ _ [z] (by simp [loadCells, loadCellsFrom, go_sem, Addr.add])]
 rfl
theorem str_cons (d : UInt8) (l : List UInt8) : (ByteArray.mk #[d] ++ ByteArray.mk l.toArray) = ByteArray.mk (d :: l).toArray := ByteArray.mk_append_mk [d] l
theorem below_alloc' {w wr : World} (h : Below w.heap.size w wr) (o : Obj) : Below w.heap.size w (wr.alloc o) := h.alloc h.size o
theorem number_any (N : Nat) (hN : N ≤ 65535) (w : World) : Calls Tryz.prog 47 #[.int .i64 N] w fun e w' => e = .returned (.string (bt (Lib.decDigits N))) ∧ Below w.heap.size w w' := by
 by_cases h0 : 0 < N
 ·have HI := qh (show Lib.decDigits N = digN N by unfold digN; rw [if_neg (by omega)])
  go_enter Tryz.func47, Tryz.ntmps47
  go_wp2
  go_loopw [0, 3] (fun n s wr => ∃ (m : Nat) (l : List UInt8), m ≤ N ∧ n = .int .i64 m ∧ s = .string ⟨l.toArray⟩ ∧ l.length + m ≤ N ∧ Hid (digN N = digN m ++ l) ∧ Below w.heap.size w wr) (fun n _ _ => (intOf n).toNat)
  case atStart => exact ⟨N, [], Nat.le_refl _, rfl, rfl, by simp, qh (by simp), Below.refl _ _⟩
  case round =>
   obtain ⟨m, l, hm, rfl, rfl, hlen, hl, hb⟩ := hrel
   by_cases h9 : 0 < m
   ·have hc := conv_one wr (48 + (m : Int) % 10) (by omega) (by omega)
    have hne : ((m : Int) != 0) = true := by simp; omega
    go_wp2
    go_roundw
    case rel => exact ⟨m / 10, (48 + UInt8.ofNat (m % 10)) :: l, by omega, by simp, by rw [str_cons], by simp; omega, qh (by rw [hl.out, digN_step m h9]), below_alloc' hb _⟩
    case measure => simp [intOf]; omega
   ·obtain rfl : m = 0 := by omega
    have HE := qh (show digN N = l from by rw [hl.out]; rfl)
    clear hl
    go_wp2
    go_ret
    exact ⟨by rw [HI.out, HE.out]; rfl, hb⟩
 ·obtain rfl : N = 0 := by omega
  have HI := qh (show Lib.decDigits 0 = [48] from Num.dec_small 0 (by omega))
  clear h0
  go_enter Tryz.func47, Tryz.ntmps47
  go_wp2
  go_ret
  exact ⟨by rw [HI.out]; rfl, Below.refl _ _⟩
def seedV (s : Nat × Nat) : List Value := [.int .u8 s.1, .int .u16 s.2]
def seedsV (l : List (Nat × Nat)) : List Value := l.flatMap seedV
theorem seedsV_len (l : List (Nat × Nat)) : (seedsV l).length = l.length * 2 := by
 induction l with
 | nil => rfl
 | cons s l ih => simp only [seedsV, List.flatMap_cons, List.length_append, List.length_cons] at ih ⊢; rw [ih, show (seedV s).length = 2 from rfl]; omega
structure Seeds (w : World) (A : Option Addr) (c : Nat) (l : List (Nat × Nat)) : Prop where
 reads : Reads w w.heap.size 2 A l.length (seedsV l)
 cap : l.length ≤ c
 big : c ≤ 9223372036854775807
 fit : ∀ s ∈ l, s.1 < 256 ∧ s.2 ≤ 65535
theorem Seeds.below {w w' : World} {A : Option Addr} {c : Nat} {l : List (Nat × Nat)} (h : Seeds w A c l) (hb : Below w.heap.size w w') : Seeds w' A c l :=
 ⟨(h.reads.below hb).more hb.size, h.cap, h.big, h.fit⟩
theorem seedsV_drop (l : List (Nat × Nat)) (k : Nat) : seedsV (l.drop k) = (seedsV l).drop (k * 2) := by
 induction l generalizing k with
 | nil => simp [seedsV]
 | cons s l ih =>
   cases k with
   | zero => simp
   | succ k =>
     rw [List.drop_succ_cons, ih k]
     simp only [seedsV, List.flatMap_cons]
     rw [show (k + 1) * 2 = k * 2 + 1 + 1 from by omega]
     rfl
theorem Seeds.drop {w : World} {A : Option Addr} {c : Nat} {l : List (Nat × Nat)} (h : Seeds w A c l) {k : Nat} (hk : k ≤ l.length) : Seeds w (if c = k then A else A.map (·.add (k * 2))) (c - k) (l.drop k) := by
 have hc := h.cap
 refine ⟨⟨by rw [seedsV_len], fun h0 => ?_⟩, by rw [List.length_drop]; omega, by have := h.big; omega, fun s hs => h.fit s (List.mem_of_mem_drop hs)⟩
 rw [List.length_drop] at h0
 obtain ⟨ad, e, hb, hcl⟩ := h.reads.2 (by omega)
 subst e
 rw [if_neg (by omega)]
 refine ⟨ad.add (k * 2), rfl, by rw [block_of_add]; exact hb, fun j u hu => ?_⟩
 rw [seedsV_drop, List.getElem?_drop] at hu
 rw [add_of_add]
 exact hcl _ _ hu
theorem seeds_slice {w : World} {A : Option Addr} {c : Nat} {l : List (Nat × Nat)} (h : Seeds w A c l) {k : Nat} (hk : k ≤ l.length) (kI : Int) (e : kI = (k : Nat)) :
 ∃ A', (∀ w' : World, (Instr.slice 77 (.slice A l.length c) (some (.int .i64 kI)) none none).run Tryz.prog w' = .ok (.slice A' (l.drop k).length (c - k)) w') ∧ Seeds w A' (c - k) (l.drop k) := by
 subst e
 refine ⟨_, fun w' => ?_, h.drop hk⟩
 have h0 : (0 : Int) ≤ (k : Int) := by omega
 have h1 : (k : Int) ≤ (l.length : Int) := by omega
 have hz : (Tryz.prog.elem 77) = 95 := by kernel_rfl
 simp [go_sem, h0, h1, sliced, Result.andThen, List.length_drop]
theorem Seeds.first {w : World} {A : Option Addr} {c : Nat} {s : Nat × Nat} {l : List (Nat × Nat)} (h : Seeds w A c (s :: l)) : ∃ g off, A = some ⟨g, off, none⟩ ∧ g < w.heap.size ∧ w.cell? ⟨g, off, none⟩ = some (.int .u8 s.1) ∧ w.cell? ⟨g, off + 1, none⟩ = some (.int .u16 s.2) := by
 obtain ⟨⟨g, off, sp⟩, e, hb, hc⟩ := h.reads.2 (by simp)
 have c0 := hc 0 _ rfl
 have hs : sp = none := by
  have := World.cell?_spot c0
  simpa [Addr.add] using this
 subst hs
 have c1 := hc 1 _ rfl
 refine ⟨g, off, e, hb, by simpa [Addr.add] using c0, ?_⟩
 have e1 : (⟨g, off, none⟩ : Addr).add 1 = ⟨g, off + 1, none⟩ := by unfold Addr.add; simp
 rw [e1] at c1
 exact c1
abbrev opsV : Array Value := #[.string ⟨#[42]⟩, .string ⟨#[47]⟩, .string ⟨#[68, 73, 86]⟩, .string ⟨#[77, 79, 68]⟩, .string ⟨#[65, 78, 68]⟩, .string ⟨#[43]⟩, .string ⟨#[45]⟩, .string ⟨#[79, 82]⟩, .string ⟨#[61]⟩, .string ⟨#[35]⟩, .string ⟨#[60]⟩, .string ⟨#[60, 61]⟩, .string ⟨#[62]⟩, .string ⟨#[62, 61]⟩, .string ⟨#[73, 78]⟩]
theorem opsV_at : ∀ k, k < 15 → opsV[k]? = some (.string (opB k)) := by
 intro k hk
 iterate 15 (rcases k with _ | k; · rfl)
 omega
theorem op_size : ∀ k, k < 15 → (opB k).size ≤ 3 := by decide
def GrownR (w : World) (g : Gr) (n : Nat) (e : Ending) (w' : World) : Prop := ∃ b, e = .returned (.tuple #[.pointer (some ⟨b, 0, none⟩), .string (bt g.text), .int .i64 n]) ∧ Below w.heap.size w w'
def GrownIH (d : Nat) : Prop := ∀ (l : List (Nat × Nat)) (A : Option Addr) (c : Nat) (w : World), d ≤ 6 → Seeds w A c l → ∀ D : Int, D = (d : Nat) → Calls Tryz.prog 31 #[.slice A l.length c, .int .i64 D] w (GrownR w (grownP d l).1 (grownP d l).2)
theorem grown_size (d : Nat) (l : List (Nat × Nat)) (h : ∀ s ∈ l, s.1 < 256 ∧ s.2 ≤ 65535) (hl : d ≤ 6) : (bt (grownP d l).1.text).size ≤ 600 ∧ ((grownP d l).2 ≤ l.length ∧ (grownP d l).2 ≤ 63) := by
 obtain ⟨_, h1, h2⟩ := grown_ok d l (fun s hs => (h s hs).2)
 have h3 := St.grown_used d l
 have h4 : (2 : Nat) ^ d ≤ 2 ^ 6 := Nat.pow_le_pow_right (by decide) hl
 have h5 : (2 : Nat) ^ 6 = 64 := rfl
 exact ⟨by show (grownP d l).1.text.toArray.size ≤ 600; simp; omega, h1, by omega⟩
theorem grown_z (d : Nat) (l : List (Nat × Nat)) (A : Option Addr) (c : Nat) (w : World) (D : Int) (h : l = [] ∨ D = 0) (hg : grownP d l = (.z, 0)) : Calls Tryz.prog 31 #[.slice A l.length c, .int .i64 D] w (GrownR w (grownP d l).1 (grownP d l).2) := by
 rw [hg]
 have hb := (Below.refl w.heap.size w).alloc nl (.cells #[.int .u8 1, .complex .f64 0 0, .string ⟨#[122]⟩, .int .i64 0, .slice none 0 0] 38)
 have HR := qh hb
 have hx : ((l.length : Int) == 0) = true ∨ (((l.length : Int) == 0) = false ∧ (D == 0) = true) := by
  rcases h with rfl | rfl
  ·exact .inl rfl
  ·cases ((l.length : Int) == 0)
   ·exact .inr ⟨rfl, rfl⟩
   ·exact .inl rfl
 clear hb h hg
 rcases hx with b1 | ⟨b1, b2⟩
 all_goals
  go_enter Tryz.func31, Tryz.ntmps31
  go_wp2
  go_ret3
  exact ⟨_, rfl, HR.out⟩
structure GK (w w' : World) (n : Nat) : Prop where
 bel : Below w.heap.size w w'
 lt : w.heap.size + 1 < w'.heap.size
 s1 : w'.cell? ⟨w.heap.size, 1, none⟩ = some (.int .u16 n)
 ops : ∀ p, p < 15 → w'.cell? ⟨w.heap.size + 1, p, none⟩ = some (.string (opB p))
theorem GK.below {w w' w2 : World} {n : Nat} (h : GK w w' n) (hb : Below w'.heap.size w' w2) : GK w w2 n :=
 ⟨h.bel.trans (hb.mono h.bel.size), Nat.lt_of_lt_of_le h.lt hb.size, (hb.cell (p := ⟨w.heap.size, 1, none⟩) (by have := h.lt; simp only; omega)).trans h.s1, fun p hp => (hb.cell (p := ⟨w.heap.size + 1, p, none⟩) h.lt).trans (h.ops p hp)⟩
theorem GK.start (w : World) (a n : Nat) : GK w ((w.alloc (.cells #[.int .u8 a, .int .u16 n] 95)).alloc (.cells opsV 9)) n := by
 have h0 : (w.alloc (.cells #[.int .u8 a, .int .u16 n] 95)).heap.size = w.heap.size + 1 := World.size_alloc _ _
 have hb := Lx.Blk.new w 95 #[.int .u8 a, .int .u16 n]
 refine ⟨((Below.refl _ _).alloc nl _).alloc (by rw [h0]; omega) _, by rw [World.size_alloc, h0]; omega, (hb.alloc _).cell 1, fun p hp => ?_⟩
 have := Lx.Blk.new (w.alloc (.cells #[.int .u8 a, .int .u16 n] 95)) 9 opsV
 rw [h0] at this
 rw [this.cell p]
 exact opsV_at p hp
theorem bt_data (l : List UInt8) : (bt l).data.toList = l := by simp [bt]
theorem un_at (q : Nat) (hq : q < 3) (W : World) : (W.alloc (.cells #[.string ⟨#[43]⟩, .string ⟨#[45]⟩, .string ⟨#[78, 79, 84]⟩] 9)).cell? ⟨W.heap.size, q, none⟩ = some (.string (unB q)) := by
 rw [(Lx.Blk.new W 9 _).cell q]
 obtain rfl | rfl | rfl : q = 0 ∨ q = 1 ∨ q = 2 := by omega
 ·rfl
 ·rfl
 ·rfl
theorem ha_ {w W : World} (h : Below w.heap.size w W) (o : Obj) : Below w.heap.size w (W.alloc o) := h.alloc h.size o
theorem ret3_ {v : Value} {s s' : ByteArray} {i i' : Int} (h1 : s = s') (h2 : i = i') : Ending.returned (.tuple #[v, .string s, .int .i64 i]) = .returned (.tuple #[v, .string s', .int .i64 i']) := by rw [h1, h2]
theorem bel1 (w : World) (o : Obj) : Below w.heap.size w (w.alloc o) := (Below.refl _ _).alloc nl _
theorem num_a {w W x : World} {cs : Array Value} (hB : Below w.heap.size w W) (hb : Below (W.alloc (.cells cs 38)).drew.heap.size (W.alloc (.cells cs 38)).drew x) : Below w.heap.size w x := by
 have h1 : Below w.heap.size w (W.alloc (.cells cs 38)).drew := (hB.alloc hB.size _).drew
 exact h1.trans (hb.mono h1.size)
theorem num_b {w W x : World} {cs : Array Value} (hB : Below w.heap.size w W) (hb : Below W.drew.heap.size W.drew x) : Below w.heap.size w (x.alloc (.cells cs 38)) := by
 have h1 : Below w.heap.size w x := (hB.drew).trans (hb.mono hB.size)
 exact h1.alloc h1.size _
theorem grown_step (d : Nat) (IH : GrownIH d) (a n : Nat) (l : List (Nat × Nat)) (A : Option Addr) (c : Nat) (w : World) (h : Seeds w A c ((a, n) :: l)) (D : Int) (hD : D = ((d + 1 : Nat) : Int)) (hd : d ≤ 5) :
 Calls Tryz.prog 31 #[.slice A ((a, n) :: l).length c, .int .i64 D] w (GrownR w (grownP (d + 1) ((a, n) :: l)).1 (grownP (d + 1) ((a, n) :: l)).2) := by
 obtain ⟨g0, off, rfl, hg0, k0, k1⟩ := h.first
 obtain ⟨fa, fn⟩ := h.fit (a, n) (by simp)
 simp only at fa fn k0 k1
 have hlf : ∀ s ∈ l, s.1 < 256 ∧ s.2 ≤ 65535 := fun s hs => h.fit s (by simp [hs])
 have hcap := h.cap
 have hbig := h.big
 obtain ⟨N, hN⟩ : ∃ N, ((a, n) :: l).length = N := ⟨_, rfl⟩
 rw [hN] at hcap ⊢
 have hN1 : 1 ≤ N := by simp only [List.length_cons] at hN; omega
 have hlN : l.length + 1 = N := by simpa using hN
 have x1 : (0 : Int) ≤ (a : Int) := by omega
 have x2 : (a : Int) ≤ 255 := by omega
 have x3 : (0 : Int) ≤ (n : Int) := by omega
 have x4 : (n : Int) ≤ 65535 := by omega
 have x5 : (1 : Int) ≤ (N : Int) := by omega
 have x6 : (1 : Int) ≤ D := by omega
 have x7 : ((N : Int) == 0) = false := by simp only [beq_eq_false_iff_ne, ne_eq]; omega
 have x8 : (D == 0) = false := by simp only [beq_eq_false_iff_ne, ne_eq]; omega
 have x9 : D ≤ 9223372036854775807 := by omega
 obtain ⟨A1, hs1, HS1⟩ := seeds_slice h (k := 1) (by simp only [List.length_cons]; omega) 1 rfl
 rw [hN, show (((a, n) :: l).drop 1).length = l.length from rfl] at hs1
 have HS1 := qh (show Seeds w A1 (c - 1) l from HS1)
 have HG := qh (grownP_succ d a n l)
 obtain ⟨G1, m1, e1⟩ : ∃ G m, grownP d l = (G, m) := ⟨_, _, rfl⟩
 have z1 := grown_size d l hlf (by omega)
 rw [e1] at HG z1
 obtain ⟨z1, z2⟩ := z1
 simp only at z1 z2 HG
 have C1 := qh (show ∀ W, Seeds W A1 (c - 1) l → Calls Tryz.prog 31 #[.slice A1 l.length (c - 1), .int .i64 (D - 1)] W (GrownR W G1 m1) from fun W hW => by
  have := IH l A1 (c - 1) W (by omega) hW (D - 1) (by rw [hD]; omega)
  rw [e1] at this
  exact this)
 have y1 : (0 : Int) ≤ (m1 : Int) := by omega
 have y2 : (m1 : Int) ≤ 63 := by omega
 obtain ⟨A2, hs2, HS2⟩ := seeds_slice h (k := 1 + m1) (by simp only [List.length_cons]; omega) (1 + (m1 : Int)) (by omega)
 have ed : ((a, n) :: l).drop (1 + m1) = l.drop m1 := by rw [Nat.add_comm]; rfl
 rw [hN, ed, List.length_drop] at hs2
 rw [ed] at HS2
 have HS2 := qh HS2
 obtain ⟨G2, m2, e2⟩ : ∃ G m, grownP d (l.drop m1) = (G, m) := ⟨_, _, rfl⟩
 have z3 := grown_size d (l.drop m1) (fun s hs => hlf s (List.mem_of_mem_drop hs)) (by omega)
 rw [e2] at HG z3
 obtain ⟨z3, z4⟩ := z3
 rw [List.length_drop] at z4
 simp only at z3 z4 HG
 have C2 := qh (show ∀ W, Seeds W A2 (c - (1 + m1)) (l.drop m1) → Calls Tryz.prog 31 #[.slice A2 (l.length - m1) (c - (1 + m1)), .int .i64 (D - 1)] W (GrownR W G2 m2) from fun W hW => by
  have := IH (l.drop m1) A2 (c - (1 + m1)) W (by omega) hW (D - 1) (by rw [hD]; omega)
  rw [e2, List.length_drop] at this
  exact this)
 have y3 : (0 : Int) ≤ (m2 : Int) := by omega
 have y4 : (m2 : Int) ≤ 63 := by omega
 have NB := qh (number_any n fn)
 have hk : a % 9 ≤ 2 ∨ a % 9 = 3 ∨ a % 9 = 4 ∨ a % 9 = 5 ∨ a % 9 = 6 ∨ a % 9 = 7 ∨ a % 9 = 8 := by omega
 have E15 : (n : Int) % 15 = ((n % 15 : Nat) : Int) := by omega
 have E3 : (n : Int) % 3 = ((n % 3 : Nat) : Int) := by omega
 have KS := qh (GK.start w a n)
 clear h IH hN hlf hD hd fa fn e1 e2 ed
 generalize grownP (d + 1) ((a, n) :: l) = gg at *
 rcases hk with ea | ea | ea | ea | ea | ea | ea
 ·have HGk := qh (HG.out.trans (by rw [if_pos (by omega)]))
  have hp := op_size (n % 15) (by omega)
  have ha1 : ((n % 15 : Nat) : Int) < 15 := by omega
  have ha0 : (0 : Int) ≤ ((n % 15 : Nat) : Int) := by omega
  have hp15 : n % 15 < 15 := by omega
  generalize n % 15 = p at *
  have hk3 : (a : Int) % 9 = 0 ∨ (a : Int) % 9 = 1 ∨ (a : Int) % 9 = 2 := by omega
  clear ea HG
  rcases hk3 with ea' | ea' | ea'
  all_goals
   go_enter Tryz.func31, Tryz.ntmps31
   have D1 := qh (C1.out _ (HS1.out.below KS.out.bel))
   go_wp2_with fail
   ((with_reducible refine D1.out.mono ?_); rintro e w1 ⟨b1, rfl, hb1⟩)
   have KS := qh (KS.out.below hb1)
   clear hb1 D1
   have D2 := qh (C2.out w1 (HS2.out.below KS.out.bel))
   go_wp2_with fail
   ((with_reducible refine D2.out.mono ?_); rintro e w2 ⟨b2, rfl, hb2⟩)
   have KS := qh (KS.out.below hb2)
   clear hb2 D2
   have v1 := KS.out.s1
   have v2 := KS.out.ops p hp15
   have hw1 := KS.out.lt
   go_wp2
   go_ret3
   rw [HGk.out]
   exact ⟨_, ret3_ (Lx.bytes_ext (by simp [bt_data, Gr.text, ByteArray.data_append, opTx, unT])) (by push_cast; omega), (by repeat' (first | exact KS.out.bel | refine ha_ ?_ _))⟩
 ·have HGk := qh (HG.out.trans (by rw [if_neg (by omega), if_pos (by omega)]))
  have hun := un_at (n % 3) (by omega)
  have hp : (unB (n % 3)).size ≤ 3 := by
   have : ∀ q, q < 3 → (unB q).size ≤ 3 := by decide
   exact this _ (by omega)
  have ha1 : ((n % 3 : Nat) : Int) < 3 := by omega
  have ha0 : (0 : Int) ≤ ((n % 3 : Nat) : Int) := by omega
  generalize n % 3 = p at *
  have ea' : (a : Int) % 9 = 3 := by omega
  clear ea
  go_enter Tryz.func31, Tryz.ntmps31
  have D1 := qh (C1.out _ (HS1.out.below KS.out.bel))
  go_wp2_with fail
  ((with_reducible refine D1.out.mono ?_); rintro e w1 ⟨b1, rfl, hb1⟩)
  have KS := qh (KS.out.below hb1)
  clear hb1 D1
  have v1 := KS.out.s1
  have hw1 := KS.out.lt
  have hw2 : w.heap.size < w1.heap.size := by omega
  go_wp2
  go_ret3
  rw [HGk.out]
  exact ⟨_, ret3_ (Lx.bytes_ext (by simp [bt_data, Gr.text, ByteArray.data_append, opTx, unT])) (by push_cast; omega), (by repeat' (first | exact KS.out.bel | refine ha_ ?_ _))⟩
 ·have HGk := qh (HG.out.trans (by rw [if_neg (by omega), if_neg (by omega), if_pos (by omega)]))
  have ea' : (a : Int) % 9 = 4 := by omega
  clear ea
  go_enter Tryz.func31, Tryz.ntmps31
  generalize hW : (w.alloc (.cells #[.int .u8 a, .int .u16 n] 95)).alloc (.cells opsV 9) = W at KS
  have HW := qh hW
  clear hW
  go_wp2
  rw [show (w.alloc (.cells #[.int .u8 a, .int .u16 n] 95)).alloc (.cells opsV 9) = W from HW.out]
  have v1 : W.cell? ⟨w.heap.size, 1, none⟩ = some (.int .u16 n) := KS.out.s1
  have hwr : IntKind.i64.wrap (n : Int) = (n : Int) := IntWalk.i64_in _ (by omega)
  have hw1 := KS.out.lt
  have hw2 : w.heap.size < W.heap.size := by omega
  have hw3 : w.heap.size < W.drew.heap.size := hw2
  go_region_law (first
   | (go_simp; go_at_call 47; (with_reducible refine (NB.out _).mono ?_); rintro e x ⟨rfl, hb⟩; have v2 : x.cell? ⟨w.heap.size, 1, none⟩ = some (.int .u16 n) := (hb.cell (p := ⟨w.heap.size, 1, none⟩) (by first | exact hw2 | exact Nat.lt_of_lt_of_le hw2 (Nat.le_of_lt (by show W.heap.size < (W.alloc _).heap.size; rw [World.size_alloc]; exact Nat.lt_succ_self _)))).trans (by first | exact v1 | exact (World.cell?_alloc_lt W _ ⟨w.heap.size, 1, none⟩ hw2).trans v1)))
  all_goals
   clear v1 v2
   go_wp2
   go_ret3
   rw [HGk.out]
   first
    | exact ⟨_, ret3_ (by rfl) (by rfl), num_a KS.out.bel hb⟩
    | exact ⟨_, ret3_ (by rfl) (by rfl), num_b KS.out.bel hb⟩
 ·have HGk := qh (HG.out.trans (by rw [if_neg (by omega), if_neg (by omega), if_neg (by omega), if_pos (by omega)]))
  have ea' : (a : Int) % 9 = 5 := by omega
  clear ea
  go_enter Tryz.func31, Tryz.ntmps31
  have D1 := qh (C1.out _ (HS1.out.below KS.out.bel))
  go_wp2_with fail
  ((with_reducible refine D1.out.mono ?_); rintro e w1 ⟨b1, rfl, hb1⟩)
  have KS := qh (KS.out.below hb1)
  clear hb1 D1
  have hw1 := KS.out.lt
  go_wp2
  go_ret3
  rw [HGk.out]
  exact ⟨_, ret3_ (Lx.bytes_ext (by simp [bt_data, Gr.text, ByteArray.data_append, opTx, unT])) (by push_cast; omega), (by repeat' (first | exact KS.out.bel | refine ha_ ?_ _))⟩
 ·have HGk := qh (HG.out.trans (by rw [if_neg (by omega), if_neg (by omega), if_neg (by omega), if_neg (by omega), if_pos (by omega)]))
  have ea' : (a : Int) % 9 = 6 := by omega
  clear ea
  go_enter Tryz.func31, Tryz.ntmps31
  have D1 := qh (C1.out _ (HS1.out.below KS.out.bel))
  go_wp2_with fail
  ((with_reducible refine D1.out.mono ?_); rintro e w1 ⟨b1, rfl, hb1⟩)
  have KS := qh (KS.out.below hb1)
  clear hb1 D1
  have D2 := qh (C2.out w1 (HS2.out.below KS.out.bel))
  go_wp2_with fail
  ((with_reducible refine D2.out.mono ?_); rintro e w2 ⟨b2, rfl, hb2⟩)
  have KS := qh (KS.out.below hb2)
  clear hb2 D2
  have hw1 := KS.out.lt
  go_wp2
  go_ret3
  rw [HGk.out]
  exact ⟨_, ret3_ (Lx.bytes_ext (by simp [bt_data, Gr.text, ByteArray.data_append, opTx, unT])) (by push_cast; omega), (by repeat' (first | exact KS.out.bel | refine ha_ ?_ _))⟩
 ·have HGk := qh (HG.out.trans (by rw [if_neg (by omega), if_neg (by omega), if_neg (by omega), if_neg (by omega), if_neg (by omega), if_pos (by omega)]))
  have ea' : (a : Int) % 9 = 7 := by omega
  clear ea
  go_enter Tryz.func31, Tryz.ntmps31
  have D1 := qh (C1.out _ (HS1.out.below KS.out.bel))
  go_wp2_with fail
  ((with_reducible refine D1.out.mono ?_); rintro e w1 ⟨b1, rfl, hb1⟩)
  have KS := qh (KS.out.below hb1)
  clear hb1 D1
  have D2 := qh (C2.out w1 (HS2.out.below KS.out.bel))
  go_wp2_with fail
  ((with_reducible refine D2.out.mono ?_); rintro e w2 ⟨b2, rfl, hb2⟩)
  have KS := qh (KS.out.below hb2)
  clear hb2 D2
  have hw1 := KS.out.lt
  go_wp2
  go_ret3
  rw [HGk.out]
  exact ⟨_, ret3_ (Lx.bytes_ext (by simp [bt_data, Gr.text, ByteArray.data_append, opTx, unT])) (by push_cast; omega), (by repeat' (first | exact KS.out.bel | refine ha_ ?_ _))⟩
 ·have HGk := qh (HG.out.trans (by rw [if_neg (by omega), if_neg (by omega), if_neg (by omega), if_neg (by omega), if_neg (by omega), if_neg (by omega)]))
  have ea' : (a : Int) % 9 = 8 := by omega
  clear ea
  go_enter Tryz.func31, Tryz.ntmps31
  go_wp2
  go_ret3
  rw [HGk.out]
  exact ⟨_, ret3_ (by rfl) (by rfl), (by repeat' (first | exact KS.out.bel | refine ha_ ?_ _))⟩
theorem grown_any : ∀ d, d ≤ 6 → GrownIH d
 | 0, hd => fun l A c w _ h D hD => grown_z 0 l A c w D (.inr hD) rfl
 | d + 1, hd => fun l A c w _ h D hD => by
   cases l with
   | nil => exact grown_z (d + 1) [] A c w D (.inl rfl) rfl
   | cons s l => exact grown_step d (grown_any d (by omega)) s.1 s.2 l A c w h D hD (by omega)
end Ex
end Go.Proofs.YtkemhmfdooghkaaGreatDoor
