/- A part of the proof: G17. -/
import Derived.Test.YtecmjhohniipoaaZ1
import Derived.Test.YtecmjhohniipoaaZ19
import Derived.Deep.AppendLies
import Derived.Deep.LoopGhost
import Derived.Test.YtecmjhohniipoaaZ16
set_option linter.unusedSimpArgs false
set_option linter.unusedVariables false

section
namespace Go.Proofs.Ytecmjhohniipoaa.Ex
open Go.RowKit
open Tr (Nd Fo RepS RepN Rep cellsN)
open Lx (Tk noTk Blk run_store_complexL TokAt)
open Fl
attribute [local go_sem] run_store_complexL run_field1 run_field3
section
variable {w0 w W w1 wr : World} {B B0 br b c i i' : Nat} {d : Nd} {A : Option Addr} {L : List PT} {sv u v : Value} {xs vs : List Value} {bad bad' : Bool}
theorem KN.retag {j : Nat} {d' : Nd} (h : KN B W b d sv xs) (hd : (cellsN d sv).setIfInBounds j u = cellsN d' sv) : KN B (W.setCell ⟨b, j, none⟩ u) b d' sv xs :=
 ⟨by have := h.blk.set_ j u; rwa [hd] at this, h.own.kept (Tr.setCell_grown _ _ _) (.inr (Tr.own_blk_ne h.own h.blk (by decide))), h.low⟩
theorem KN.leaf (h : KN B w b d sv []) (hB : B0 ≤ B) : RepS (fun y => B0 ≤ y) w (.node d .no .no) [.pointer (some ⟨b, 0, none⟩)] :=
 RepS.mk h.blk h.own (by unfold RepS; rfl) (Nat.le_trans hB h.low) (fun g hg => Nat.le_trans hB (h.own.lt g hg).1)
theorem KN.cells (h : KN B w b d sv xs) : w.cell? ⟨b, 0, none⟩ = some (.int .u8 d.kind) ∧ w.frozen? ⟨b, 0, none⟩ = false ∧ w.cell? ⟨b, 3, none⟩ = some (.int .i64 d.n) ∧ w.frozen? ⟨b, 3, none⟩ = false ∧ b < w.heap.size := ⟨h.blk.cell 0, h.blk.frozen 0, h.blk.cell 3, h.blk.frozen 3, h.blk.lt⟩
theorem KG.all {m c' : Nat} {A' : Option Addr} {x : T1} {l : List T1} (h : KG B0 B W b d sv [x] [v]) (hl : RepS (fun y => B0 ≤ y ∧ y ≠ b ∧ sv.ownBlock ≠ some y) W (forest l) vs) (hm : vs.length = m)
 (hown : w1.ownsRow B 26 1 (.slice A' (1 + m) c') (1 + m) ([v] ++ vs)) (hg : W.grownBy w1 sv.ownBlock) (hB : B0 ≤ B) :
 RepS (fun y => B0 ≤ y) (w1.setCell ⟨b, 4, none⟩ (.slice A' (1 + m) c')) (.node d (forest (x :: l)) .no) [.pointer (some ⟨b, 0, none⟩)] := by
 have hne : sv.ownBlock ≠ some b := Tr.own_blk_ne h.kn.own h.kn.blk (by decide)
 have hb1 : Tr.Blk w1 b 42 (cellsN d sv) := h.kn.blk.grown hg (fun e => hne e.symm)
 have hgb := Tr.own_blk_ne hown hb1 (by decide)
 have hb2 := hb1.set_ 4 (.slice A' (1 + m) c')
 rw [Tr.cellsN_set] at hb2
 have hkeep : ∀ y, (B0 ≤ y ∧ y ≠ b ∧ sv.ownBlock ≠ some y) → y < W.heap.size → (w1.setCell ⟨b, 4, none⟩ (.slice A' (1 + m) c')).heap[y]? = W.heap[y]? := by
  intro y hy hl
  obtain ⟨x1, x2, x3⟩ := hy
  rw [Below.heap_setCell w1 ⟨b, 4, none⟩ _ y x2]
  exact hg.block y hl (fun e => x3 e.symm)
 have hr : RepS (fun y => B0 ≤ y) (w1.setCell ⟨b, 4, none⟩ (.slice A' (1 + m) c')) (forest (x :: l)) ([v] ++ vs) :=
  (repS_cons h.rep hl).keep (by simp; exact hg.size) hkeep fun y hy _ => hy.1
 have ho : (w1.setCell ⟨b, 4, none⟩ (.slice A' (1 + m) c')).ownsRow B 26 1 (.slice A' (1 + m) c') ([v] ++ vs).length ([v] ++ vs) := by
  have e : ([v] ++ vs).length = 1 + m := by rw [List.length_append, hm]; rfl
  rw [e]
  exact hown.kept (Tr.setCell_grown _ _ _) (.inr hgb)
 exact RepS.mk hb2 ho hr (Nat.le_trans hB h.kn.low) (fun g hg => Nat.le_trans hB (ho.lt g hg).1)
theorem QG.gfar {row : Option Nat} (h : QG w0 w wr br A c L i bad) (hw : QInv w0 w br A c L i' bad') (hg : wr.grownBy w1 row) (hr : ∀ k, row = some k → w.heap.size ≤ k) : QG w0 w w1 br A c L i bad := by
 have hl := hw.row.lt
 have hs := hw.grown.size
 have hk : ∀ (a : World), a.heap.size ≤ w.heap.size → a.grownBy wr (some br) → a.grownBy w1 (some br) := fun a ha h =>
  ⟨hg.os.trans h.os, hg.tape.trans h.tape, hg.output.trans h.output, Nat.le_trans h.size hg.size, fun k hk hne => (hg.block k (Nat.lt_of_lt_of_le hk h.size) (fun e => by have := hr k e.symm; omega)).trans (h.block k hk hne)⟩
 exact ⟨⟨h.1.row.grown hg (fun e => by have := hr _ e.symm; omega), hk w0 hs h.1.grown⟩, hk w (Nat.le_refl _) h.2⟩
theorem RefR.since {r : Except Nat (T1 × Nat)} {e : Ending} (h : RefR B w0 wr br A c L r e w1) (hg : w.grownBy wr (some br)) : RefR B w0 w br A c L r e w1 := by
 cases r with
 | error k => obtain ⟨p, h1, h2, h3⟩ := h; exact ⟨p, h1, h2, grown_trans hg h3⟩
 | ok q => obtain ⟨b, h1, h2, h3, h4⟩ := h; exact ⟨b, h1, h2, grown_trans hg h3, h4⟩
end
set_option maxRecDepth 100000 in set_option maxHeartbeats 6400000 in
theorem rfac_2 {w0 : World} {br c : Nat} {A : Option Addr} {L : List PT} (ht : Toks w0 br A L) (ok : OKRow L) (i : Nat) (hi : i ≤ 60000) (w : World) (h : QInv w0 w br A c L i false) (hk : (tk L i).1.kind = 2) :
 Calls Try.prog 97 #[.pointer (some ⟨br, 0, none⟩)] w (RefR w.heap.size w0 w br A c L (.ok (mk 5 (pos L i) sNil (tk L i).1.n [], i + 1))) := by
 have hbr0 := h.row.lt
 have hlen := ht.len
 have H0 := qh h
 have H := qh (QG.start h)
 have HT := qh ht
 have HOK := qh ok
 have N1 := qh (rnow_any ht (by omega) w h)
 obtain ⟨k, p1, p2, q1, q2, t, n, e1, e2⟩ := val_form (tk L i)
 have HP := qh (show pos L i = (p1, p2) by unfold pos; rw [e1])
 have HX := qh (show (tk L i).1.text = t by rw [e1])
 have HKI := qh (show (tk L i).1.kind = k by rw [e1])
 have HN := qh (show (tk L i).1.n = n by rw [e1])
 rw [e2] at N1
 clear e1 e2
 rw [HKI.out] at hk
 subst hk
 rw [HP.out, HN.out]
 clear h ht ok
 go_enter Try.func97, Try.ntmps97
 go_wp2_with fail
 ((with_reducible refine N1.out.mono ?_); rintro e w1 ⟨rfl, hb⟩)
 have T := qh (Lx.Blk.new w1 68 #[.int .u8 2, .complex .f64 (fl p1) (fl p2), .complex .f64 (fl q1) (fl q2), .string t, .int .i64 n])
 have H := qh ((H.out.below hb).alloc (.cells #[.int .u8 2, .complex .f64 (fl p1) (fl p2), .complex .f64 (fl q1) (fl q2), .string t, .int .i64 n] 68))
 have hw1 : w.heap.size ≤ w1.heap.size := hb.size
 have hne : ¬ br = w1.heap.size := by omega
 have hne2 : ¬ w1.heap.size = br := by omega
 obtain ⟨m1, f1, m2, f2, hlt⟩ := H.out.1.at_
 obtain ⟨c0, c1, -, c3, c4, -, -, -, -, -⟩ := T.out.tok
 clear hb N1
 have x0 : (0 : Int) ≤ (i : Int) := by omega
 have T1 := qh (T.out.far (p := ⟨br, 1, none⟩) hne2 (.int .i64 ((i + 1 : Nat) : Int)))
 have H1 := qh (H.out.set_ (i + 1))
 obtain ⟨wa, hwa⟩ : ∃ wa, w1.alloc (.cells #[.int .u8 2, .complex .f64 (fl p1) (fl p2), .complex .f64 (fl q1) (fl q2), .string t, .int .i64 n] 68) = wa := ⟨_, rfl⟩
 rw [hwa] at H H1 T T1 c0 c1 c3 c4 m1 f1 m2 f2 hlt
 have hwl : w1.heap.size < wa.heap.size := T.out.lt
 have HWA := qh hwa
 clear hwa
 have NW := qh (node_kn (w := wa.setCell ⟨br, 1, none⟩ (.int .i64 ((i + 1 : Nat) : Int))) 5 5 rfl p1 p2 sNil none none)
 obtain ⟨d0, d1, -, d3, d4, -, -, -, -, -⟩ := T1.out.tok
 rw [show ((i + 1 : Nat) : Int) = (i : Int) + 1 by omega] at d0 d1 d3 d4 NW T1 H1
 rw [← HWA.out] at H H1 T T1 c0 c1 c3 c4 m1 f1 m2 f2 hlt d0 d1 d3 d4 NW hwl
 go_wp2_with fail
 ((with_reducible refine NW.out.mono ?_); rintro e wx ⟨b, sv, rfl, hn⟩)
 have H := qh (H1.out.below hn.bel)
 have T := qh (T1.out.below hn.bel T1.out.lt)
 have hs1 := hn.low
 rw [World.size_setCell, World.size_alloc] at hs1
 have hlo : w.heap.size ≤ b := by omega
 have hk0 := hn.kn
 rw [World.size_setCell] at hk0
 have K := qh (show KN w.heap.size wx b _ sv [] from ⟨hk0.blk, Lx.own_mono hk0.own (by rw [World.size_alloc]; omega), by omega⟩)
 clear hn hk0 c0 c1 c3 c4 d0 d1 d3 d4 NW
 obtain ⟨c0, c1, -, c3, c4, -, -, -, -, -⟩ := T.out.tok
 obtain ⟨x0_, xf0, x3, xf3, hbx⟩ := K.out.cells
 have hnb : ¬ w1.heap.size = b := by omega
 have hnb2 : ¬ b = w1.heap.size := by omega
 have K2 := qh (K.out.retag (j := 3) (u := .int .i64 n) (d' := ⟨5, (p1, p2), sNil, n⟩) rfl)
 have H2 := qh (H.out.far H0.out hlo 3 (.int .i64 n))
 go_wp2
 go_ret
 exact ⟨b, rfl, H2.out.1, H2.out.2, K2.out.leaf (Nat.le_refl _)⟩
set_option maxRecDepth 100000 in set_option maxHeartbeats 6400000 in
theorem rfac_3 {w0 : World} {br c : Nat} {A : Option Addr} {L : List PT} (ht : Toks w0 br A L) (ok : OKRow L) (i : Nat) (hi : i ≤ 60000) (w : World) (h : QInv w0 w br A c L i false) (hk : (tk L i).1.kind = 3) :
 Calls Try.prog 97 #[.pointer (some ⟨br, 0, none⟩)] w (RefR w.heap.size w0 w br A c L (.ok (mk 6 (pos L i) sNil (tk L i).1.n [], i + 1))) := by
 have hbr0 := h.row.lt
 have hlen := ht.len
 have H0 := qh h
 have H := qh (QG.start h)
 have HT := qh ht
 have HOK := qh ok
 have N1 := qh (rnow_any ht (by omega) w h)
 obtain ⟨k, p1, p2, q1, q2, t, n, e1, e2⟩ := val_form (tk L i)
 have HP := qh (show pos L i = (p1, p2) by unfold pos; rw [e1])
 have HX := qh (show (tk L i).1.text = t by rw [e1])
 have HKI := qh (show (tk L i).1.kind = k by rw [e1])
 have HN := qh (show (tk L i).1.n = n by rw [e1])
 rw [e2] at N1
 clear e1 e2
 rw [HKI.out] at hk
 subst hk
 rw [HP.out, HN.out]
 clear h ht ok
 go_enter Try.func97, Try.ntmps97
 go_wp2_with fail
 ((with_reducible refine N1.out.mono ?_); rintro e w1 ⟨rfl, hb⟩)
 have T := qh (Lx.Blk.new w1 68 #[.int .u8 3, .complex .f64 (fl p1) (fl p2), .complex .f64 (fl q1) (fl q2), .string t, .int .i64 n])
 have H := qh ((H.out.below hb).alloc (.cells #[.int .u8 3, .complex .f64 (fl p1) (fl p2), .complex .f64 (fl q1) (fl q2), .string t, .int .i64 n] 68))
 have hw1 : w.heap.size ≤ w1.heap.size := hb.size
 have hne : ¬ br = w1.heap.size := by omega
 have hne2 : ¬ w1.heap.size = br := by omega
 obtain ⟨m1, f1, m2, f2, hlt⟩ := H.out.1.at_
 obtain ⟨c0, c1, -, c3, c4, -, -, -, -, -⟩ := T.out.tok
 clear hb N1
 have x0 : (0 : Int) ≤ (i : Int) := by omega
 have T1 := qh (T.out.far (p := ⟨br, 1, none⟩) hne2 (.int .i64 ((i + 1 : Nat) : Int)))
 have H1 := qh (H.out.set_ (i + 1))
 obtain ⟨wa, hwa⟩ : ∃ wa, w1.alloc (.cells #[.int .u8 3, .complex .f64 (fl p1) (fl p2), .complex .f64 (fl q1) (fl q2), .string t, .int .i64 n] 68) = wa := ⟨_, rfl⟩
 rw [hwa] at H H1 T T1 c0 c1 c3 c4 m1 f1 m2 f2 hlt
 have hwl : w1.heap.size < wa.heap.size := T.out.lt
 have HWA := qh hwa
 clear hwa
 have NW := qh (node_kn (w := wa.setCell ⟨br, 1, none⟩ (.int .i64 ((i + 1 : Nat) : Int))) 5 5 rfl p1 p2 sNil none none)
 obtain ⟨d0, d1, -, d3, d4, -, -, -, -, -⟩ := T1.out.tok
 rw [show ((i + 1 : Nat) : Int) = (i : Int) + 1 by omega] at d0 d1 d3 d4 NW T1 H1
 rw [← HWA.out] at H H1 T T1 c0 c1 c3 c4 m1 f1 m2 f2 hlt d0 d1 d3 d4 NW hwl
 go_wp2_with fail
 ((with_reducible refine NW.out.mono ?_); rintro e wx ⟨b, sv, rfl, hn⟩)
 have H := qh (H1.out.below hn.bel)
 have T := qh (T1.out.below hn.bel T1.out.lt)
 have hs1 := hn.low
 rw [World.size_setCell, World.size_alloc] at hs1
 have hlo : w.heap.size ≤ b := by omega
 have hk0 := hn.kn
 rw [World.size_setCell] at hk0
 have K := qh (show KN w.heap.size wx b _ sv [] from ⟨hk0.blk, Lx.own_mono hk0.own (by rw [World.size_alloc]; omega), by omega⟩)
 clear hn hk0 c0 c1 c3 c4 d0 d1 d3 d4 NW
 obtain ⟨c0, c1, -, c3, c4, -, -, -, -, -⟩ := T.out.tok
 obtain ⟨x0_, xf0, x3, xf3, hbx⟩ := K.out.cells
 have hnb : ¬ w1.heap.size = b := by omega
 have hnb2 : ¬ b = w1.heap.size := by omega
 have K1 := qh (K.out.retag (j := 0) (u := .int .u8 6) (d' := ⟨6, (p1, p2), sNil, 0⟩) rfl)
 have K2 := qh (K1.out.retag (j := 3) (u := .int .i64 n) (d' := ⟨6, (p1, p2), sNil, n⟩) rfl)
 have T2 := qh (T.out.far (p := ⟨b, 0, none⟩) hnb (.int .u8 6))
 obtain ⟨-, -, -, -, d4, -, -, -, -, -⟩ := T2.out.tok
 obtain ⟨-, -, y3, yf3, hby⟩ := K1.out.cells
 have H2 := qh ((H.out.far H0.out hlo 0 (.int .u8 6)).far H0.out hlo 3 (.int .i64 n))
 go_wp2
 go_ret
 exact ⟨b, rfl, H2.out.1, H2.out.2, K2.out.leaf (Nat.le_refl _)⟩
set_option maxRecDepth 100000 in set_option maxHeartbeats 6400000 in
theorem rfac_4 {w0 : World} {br c : Nat} {A : Option Addr} {L : List PT} (ht : Toks w0 br A L) (ok : OKRow L) (i : Nat) (hi : i ≤ 60000) (w : World) (h : QInv w0 w br A c L i false) (hk : (tk L i).1.kind = 4) :
 Calls Try.prog 97 #[.pointer (some ⟨br, 0, none⟩)] w (RefR w.heap.size w0 w br A c L (.ok (mk 7 (pos L i) (tk L i).1.text 0 [], i + 1))) := by
 have hbr0 := h.row.lt
 have hlen := ht.len
 have H0 := qh h
 have H := qh (QG.start h)
 have HT := qh ht
 have HOK := qh ok
 have N1 := qh (rnow_any ht (by omega) w h)
 obtain ⟨k, p1, p2, q1, q2, t, n, e1, e2⟩ := val_form (tk L i)
 have HP := qh (show pos L i = (p1, p2) by unfold pos; rw [e1])
 have HX := qh (show (tk L i).1.text = t by rw [e1])
 have HKI := qh (show (tk L i).1.kind = k by rw [e1])
 have HN := qh (show (tk L i).1.n = n by rw [e1])
 rw [e2] at N1
 clear e1 e2
 rw [HKI.out] at hk
 subst hk
 rw [HP.out, HX.out]
 clear h ht ok
 go_enter Try.func97, Try.ntmps97
 go_wp2_with fail
 ((with_reducible refine N1.out.mono ?_); rintro e w1 ⟨rfl, hb⟩)
 have T := qh (Lx.Blk.new w1 68 #[.int .u8 4, .complex .f64 (fl p1) (fl p2), .complex .f64 (fl q1) (fl q2), .string t, .int .i64 n])
 have H := qh ((H.out.below hb).alloc (.cells #[.int .u8 4, .complex .f64 (fl p1) (fl p2), .complex .f64 (fl q1) (fl q2), .string t, .int .i64 n] 68))
 have hw1 : w.heap.size ≤ w1.heap.size := hb.size
 have hne : ¬ br = w1.heap.size := by omega
 have hne2 : ¬ w1.heap.size = br := by omega
 obtain ⟨m1, f1, m2, f2, hlt⟩ := H.out.1.at_
 obtain ⟨c0, c1, -, c3, c4, -, -, -, -, -⟩ := T.out.tok
 clear hb N1
 have x0 : (0 : Int) ≤ (i : Int) := by omega
 have T1 := qh (T.out.far (p := ⟨br, 1, none⟩) hne2 (.int .i64 ((i + 1 : Nat) : Int)))
 have H1 := qh (H.out.set_ (i + 1))
 obtain ⟨wa, hwa⟩ : ∃ wa, w1.alloc (.cells #[.int .u8 4, .complex .f64 (fl p1) (fl p2), .complex .f64 (fl q1) (fl q2), .string t, .int .i64 n] 68) = wa := ⟨_, rfl⟩
 rw [hwa] at H H1 T T1 c0 c1 c3 c4 m1 f1 m2 f2 hlt
 have hwl : w1.heap.size < wa.heap.size := T.out.lt
 have HWA := qh hwa
 clear hwa
 have NW := qh (node_0 (B := w.heap.size) (w := wa.setCell ⟨br, 1, none⟩ (.int .i64 ((i + 1 : Nat) : Int))) (by rw [World.size_setCell]; omega) 7 7 rfl p1 p2 t)
 obtain ⟨d0, d1, -, d3, d4, -, -, -, -, -⟩ := T1.out.tok
 rw [show ((i + 1 : Nat) : Int) = (i : Int) + 1 by omega] at d0 d1 d3 d4 NW T1 H1
 rw [← HWA.out] at H H1 T T1 c0 c1 c3 c4 m1 f1 m2 f2 hlt d0 d1 d3 d4 NW hwl
 go_wp2_with fail
 ((with_reducible refine NW.out.mono ?_); rintro e wx ⟨b, rfl, hb, hr⟩)
 have H := qh (H1.out.below hb)
 have HR := qh hr
 clear hb hr NW c0 c1 c3 c4 d0 d1 d3 d4
 go_wp2
 go_ret
 exact ⟨b, rfl, H.out.1, H.out.2, HR.out⟩
end Go.Proofs.Ytecmjhohniipoaa.Ex
namespace Go.Proofs.Ytecmjhohniipoaa.Ex
open Go.RowKit
open Tr (Nd Fo RepS RepN Rep cellsN)
open Lx (Tk noTk Blk run_store_complexL TokAt)
open Fl
attribute [local go_sem] run_store_complexL run_field1 run_field3
set_option maxRecDepth 100000 in set_option maxHeartbeats 6400000 in
theorem rfac_par {ex : Nat → Except Nat (T1 × Nat)} {e : Par T1} (he : Good e) {lo : Nat} {w0 : World} {br c : Nat} {A : Option Addr} {L : List PT} (ht : Toks w0 br A L) (ok : OKRow L) (hx : ∀ j, ex j = e L j) (hE : RnOK 63 ex lo w0 br A c L) (hm : SpOK L ex) (i : Nat) (hlo : lo ≤ i + 1) (hi : i ≤ 60000) (w : World) (h : QInv w0 w br A c L i false) (hk : ¬ (2 ≤ (tk L i).1.kind ∧ (tk L i).1.kind ≤ 4)) (hC : isT L i sCur = false) (hS : isT L i sPar = true) :
 Calls Try.prog 97 #[.pointer (some ⟨br, 0, none⟩)] w (RefR w.heap.size w0 w br A c L (match ex (i + 1) with | .error k => .error k | .ok (x, j) => match need L j sRap with | .error k => .error k | .ok j2 => .ok (x, j2))) := by
 have hbr0 := h.row.lt
 have hlen := ht.len
 have H0 := qh h
 have H := qh (QG.start h)
 have HT := qh ht
 have HOK := qh ok
 have N1 := qh (rnow_any ht (by omega) w h)
 obtain ⟨k, p1, p2, q1, q2, t, n, e1, e2⟩ := val_form (tk L i)
 have HP := qh (show pos L i = (p1, p2) by unfold pos; rw [e1])
 have HX := qh (show (tk L i).1.text = t by rw [e1])
 have HKI := qh (show (tk L i).1.kind = k by rw [e1])
 have HN := qh (show (tk L i).1.n = n by rw [e1])
 rw [e2] at N1
 clear e1 e2
 rw [HKI.out] at hk
 have k2 : ((k : Int) == 2) = false := by simp only [beq_eq_false_iff_ne, ne_eq]; omega
 have k3 : ((k : Int) == 3) = false := by simp only [beq_eq_false_iff_ne, ne_eq]; omega
 have k4 : ((k : Int) == 4) = false := by simp only [beq_eq_false_iff_ne, ne_eq]; omega
 clear hk
 have hil := isT_lt hS
 have HE := qh hE
 have HM := qh hm
 have HME := qh (err_bd he hx hlen)
 obtain ⟨res, hs0⟩ : ∃ res : Except Nat (T1 × Nat), res = (match ex (i + 1) with | .error k => .error k | .ok (x, j) => match need L j sRap with | .error k => .error k | .ok j2 => .ok (x, j2)) := ⟨_, rfl⟩
 rw [← hs0]
 have HS0 := qh hs0
 clear hs0
 clear h ht ok hE hm hx he
 go_enter Try.func97, Try.ntmps97
 go_wp2_with fail
 ((with_reducible refine N1.out.mono ?_); rintro e w1 ⟨rfl, hb⟩)
 have T := qh (Lx.Blk.new w1 68 #[.int .u8 k, .complex .f64 (fl p1) (fl p2), .complex .f64 (fl q1) (fl q2), .string t, .int .i64 n])
 have H := qh ((H.out.below hb).alloc (.cells #[.int .u8 k, .complex .f64 (fl p1) (fl p2), .complex .f64 (fl q1) (fl q2), .string t, .int .i64 n] 68))
 have hw1 : w.heap.size ≤ w1.heap.size := hb.size
 have hne : ¬ br = w1.heap.size := by omega
 have hne2 : ¬ w1.heap.size = br := by omega
 obtain ⟨m1, f1, m2, f2, hlt⟩ := H.out.1.at_
 obtain ⟨c0, c1, -, c3, c4, -, -, -, -, -⟩ := T.out.tok
 clear hb N1
 have es := rsymT HT.out (i := i) (by omega) sCur _ HOK.out (by decide) H.out.1
 rw [hC] at es
 have ES := qh es
 clear es
 go_wp2_with fail
 ((with_reducible refine (ES.out).mono ?_); rintro e wx ⟨rfl, hb⟩)
 have H := qh (H.out.below hb)
 have T := qh (T.out.below hb T.out.lt)
 clear hb
 clear c0 c1 c3 c4
 obtain ⟨c0, c1, -, c3, c4, -, -, -, -, -⟩ := T.out.tok
 clear ES
 have EY := qh (reatT_yes HT.out (i := i) (by omega) sPar _ HOK.out (by decide) H.out.1 hS)
 go_wp2_with fail
 ((with_reducible refine (EY.out).mono ?_); rintro e wx ⟨rfl, hb⟩)
 have H := qh (H.out.trans hb)
 have T := qh (T.out.grown hb.2 (fun e => by injection e with e; omega))
 clear hb
 clear c0 c1 c3 c4
 obtain ⟨c0, c1, -, c3, c4, -, -, -, -, -⟩ := T.out.tok
 clear EY
 have d1 := HE.out (i + 1) hlo (by omega) _ H.out.1
 cases hy : ex (i + 1) with
 | error k9 =>
   rw [hy] at d1
   have HS := qh (show res = .error k9 by rw [HS0.out, hy])
   have D1 := qh d1
   have hk8 := HME.out _ _ (by omega) hy
   clear d1 hy HS0
   go_wp2_with fail
   ((with_reducible refine (D1.out).mono ?_); rintro e wx ⟨p9, rfl, hp, hg⟩)
   have H := qh (H.out.trans ⟨hp, hg⟩)
   have T := qh (T.out.grown hg (fun e => by injection e with e; omega))
   clear hp hg
   clear c0 c1 c3 c4
   obtain ⟨c0, c1, -, c3, c4, -, -, -, -, -⟩ := T.out.tok
   have NB := qh (rneed_bad HT.out (by omega) sRap _ H.out.1)
   go_wp2_with fail
   ((with_reducible refine (NB.out).mono ?_); rintro e wx ⟨rfl, hb⟩)
   have H := qh (H.out.trans hb)
   have T := qh (T.out.grown hb.2 (fun e => by injection e with e; omega))
   clear hb
   clear c0 c1 c3 c4
   obtain ⟨c0, c1, -, c3, c4, -, -, -, -, -⟩ := T.out.tok
   go_wp2
   go_ret
   rw [HS.out]
   exact ⟨_, rfl, H.out.1, H.out.2⟩
 | ok r =>
   obtain ⟨x, j⟩ := r
   rw [hy] at d1
   have hj := HM.out _ _ _ hy
   have HS1 := qh (show res = (match need L j sRap with | .error k => .error k | .ok j2 => .ok (x, j2)) by rw [HS0.out, hy])
   have D1 := qh d1
   clear d1 hy HS0
   go_wp2_with fail
   ((with_reducible refine (D1.out).mono ?_); rintro e wx ⟨bx, rfl, hp, hg, hr⟩)
   have HX_ := qh (hr.more (S' := fun y => w.heap.size ≤ y) fun y hy _ => Nat.le_trans H.out.2.size hy)
   have H := qh (H.out.trans ⟨hp, hg⟩)
   have T := qh (T.out.grown hg (fun e => by injection e with e; omega))
   clear hp hg hr
   clear c0 c1 c3 c4
   obtain ⟨c0, c1, -, c3, c4, -, -, -, -, -⟩ := T.out.tok
   cases hK : isT L j sRap with
   | false =>
     have ND := qh (rneedT_no HT.out (by omega) sRap _ HOK.out (by decide) H.out.1 hK)
     have HS := qh (show res = .error j by rw [HS1.out]; unfold need; rw [if_neg (by rw [hK]; simp)])
     clear HS1
     go_wp2_with fail
     ((with_reducible refine (ND.out).mono ?_); rintro e wx ⟨rfl, hb⟩)
     have H := qh (H.out.trans hb)
     have T := qh (T.out.grown hb.2 (fun e => by injection e with e; omega))
     have HX_ := qh (repS_grown HX_.out hb.2 hbr0)
     clear hb
     clear c0 c1 c3 c4
     obtain ⟨c0, c1, -, c3, c4, -, -, -, -, -⟩ := T.out.tok
     go_wp2
     go_ret
     rw [HS.out]
     exact ⟨_, rfl, H.out.1, H.out.2⟩
   | true =>
     have ND := qh (rneedT_yes HT.out (by omega) sRap _ HOK.out (by decide) H.out.1 hK)
     have HS := qh (show res = .ok (x, j + 1) by rw [HS1.out]; unfold need; rw [if_pos hK])
     clear HS1
     go_wp2_with fail
     ((with_reducible refine (ND.out).mono ?_); rintro e wx ⟨rfl, hb⟩)
     have H := qh (H.out.trans hb)
     have T := qh (T.out.grown hb.2 (fun e => by injection e with e; omega))
     have HX_ := qh (repS_grown HX_.out hb.2 hbr0)
     clear hb
     clear c0 c1 c3 c4
     obtain ⟨c0, c1, -, c3, c4, -, -, -, -, -⟩ := T.out.tok
     go_wp2
     go_ret
     rw [HS.out]
     exact ⟨bx, rfl, H.out.1, H.out.2, HX_.out⟩
set_option maxRecDepth 100000 in set_option maxHeartbeats 6400000 in
theorem rfac_not {fc : Nat → Except Nat (T1 × Nat)} {lo : Nat} {w0 : World} {br c : Nat} {A : Option Addr} {L : List PT} (ht : Toks w0 br A L) (ok : OKRow L) (hE : RnOK 97 fc lo w0 br A c L) (i : Nat) (hlo : lo ≤ i + 1) (hi : i ≤ 60000) (w : World) (h : QInv w0 w br A c L i false) (hk : ¬ (2 ≤ (tk L i).1.kind ∧ (tk L i).1.kind ≤ 4)) (hC : isT L i sCur = false) (hP : isT L i sPar = false) (hS : isT L i sNot = true) :
 Calls Try.prog 97 #[.pointer (some ⟨br, 0, none⟩)] w (RefR w.heap.size w0 w br A c L (match fc (i + 1) with | .error k => .error k | .ok (x, j) => .ok (mk 12 (pos L i) sNot 0 [x], j))) := by
 have hbr0 := h.row.lt
 have hlen := ht.len
 have H0 := qh h
 have H := qh (QG.start h)
 have HT := qh ht
 have HOK := qh ok
 have N1 := qh (rnow_any ht (by omega) w h)
 obtain ⟨k, p1, p2, q1, q2, t, n, e1, e2⟩ := val_form (tk L i)
 have HP := qh (show pos L i = (p1, p2) by unfold pos; rw [e1])
 have HX := qh (show (tk L i).1.text = t by rw [e1])
 have HKI := qh (show (tk L i).1.kind = k by rw [e1])
 have HN := qh (show (tk L i).1.n = n by rw [e1])
 rw [e2] at N1
 clear e1 e2
 rw [HKI.out] at hk
 have k2 : ((k : Int) == 2) = false := by simp only [beq_eq_false_iff_ne, ne_eq]; omega
 have k3 : ((k : Int) == 3) = false := by simp only [beq_eq_false_iff_ne, ne_eq]; omega
 have k4 : ((k : Int) == 4) = false := by simp only [beq_eq_false_iff_ne, ne_eq]; omega
 clear hk
 have hil := isT_lt hS
 have HE := qh hE
 rw [HP.out]
 obtain ⟨res, hs0⟩ : ∃ res : Except Nat (T1 × Nat), res = (match fc (i + 1) with | .error k => .error k | .ok (x, j) => .ok (mk 12 (p1, p2) sNot 0 [x], j)) := ⟨_, rfl⟩
 rw [← hs0]
 have HS0 := qh hs0
 clear hs0
 clear h ht ok hE
 go_enter Try.func97, Try.ntmps97
 go_wp2_with fail
 ((with_reducible refine N1.out.mono ?_); rintro e w1 ⟨rfl, hb⟩)
 have T := qh (Lx.Blk.new w1 68 #[.int .u8 k, .complex .f64 (fl p1) (fl p2), .complex .f64 (fl q1) (fl q2), .string t, .int .i64 n])
 have H := qh ((H.out.below hb).alloc (.cells #[.int .u8 k, .complex .f64 (fl p1) (fl p2), .complex .f64 (fl q1) (fl q2), .string t, .int .i64 n] 68))
 have hw1 : w.heap.size ≤ w1.heap.size := hb.size
 have hne : ¬ br = w1.heap.size := by omega
 have hne2 : ¬ w1.heap.size = br := by omega
 obtain ⟨m1, f1, m2, f2, hlt⟩ := H.out.1.at_
 obtain ⟨c0, c1, -, c3, c4, -, -, -, -, -⟩ := T.out.tok
 clear hb N1
 have es := rsymT HT.out (i := i) (by omega) sCur _ HOK.out (by decide) H.out.1
 rw [hC] at es
 have ES := qh es
 clear es
 go_wp2_with fail
 ((with_reducible refine (ES.out).mono ?_); rintro e wx ⟨rfl, hb⟩)
 have H := qh (H.out.below hb)
 have T := qh (T.out.below hb T.out.lt)
 clear hb
 clear c0 c1 c3 c4
 obtain ⟨c0, c1, -, c3, c4, -, -, -, -, -⟩ := T.out.tok
 clear ES
 have EY := qh (reatT_no HT.out (i := i) (by omega) sPar _ HOK.out (by decide) H.out.1 hP)
 go_wp2_with fail
 ((with_reducible refine (EY.out).mono ?_); rintro e wx ⟨rfl, hb⟩)
 have H := qh (H.out.trans hb)
 have T := qh (T.out.grown hb.2 (fun e => by injection e with e; omega))
 clear hb
 clear c0 c1 c3 c4
 obtain ⟨c0, c1, -, c3, c4, -, -, -, -, -⟩ := T.out.tok
 clear EY
 have EY := qh (reatwT_yes HT.out (i := i) (by omega) sNot _ HOK.out (by decide) H.out.1 hS)
 go_wp2_with fail
 ((with_reducible refine (EY.out).mono ?_); rintro e wx ⟨rfl, hb⟩)
 have H := qh (H.out.trans hb)
 have T := qh (T.out.grown hb.2 (fun e => by injection e with e; omega))
 clear hb
 clear c0 c1 c3 c4
 obtain ⟨c0, c1, -, c3, c4, -, -, -, -, -⟩ := T.out.tok
 clear EY
 have d1 := HE.out (i + 1) hlo (by omega) wx.drew (H.out.below ((Below.refl _ _).drew)).1
 cases hy : fc (i + 1) with
 | error k9 =>
   rw [hy] at d1
   have HS := qh (show res = .error k9 by rw [HS0.out, hy])
   have D1 := qh d1
   clear d1 hy HS0
   have HD := qh (H.out.below ((Below.refl _ _).drew))
   have TD := qh (T.out.below ((Below.refl _ _).drew) T.out.lt)
   go_wp2
   go_region_law (first
    | (go_simp; go_at_call 97; (with_reducible refine D1.out.mono ?_); rintro e x ⟨p9, rfl, hp, hg⟩; have HX2 := qh (HD.out.trans ⟨hp, hg⟩); have T2 := qh (TD.out.grown hg (fun e => by injection e with e; omega)); clear hp hg; obtain ⟨-, a1, -, -, -, -, -, -, -, -⟩ := T2.out.tok)
    | (go_simp; go_at_call 83; (with_reducible refine (node_un (w := x) 12 12 rfl p1 p2 sNot p9 none).mono ?_); rintro e wy ⟨b, rfl, hb⟩; have H2 := qh (HX2.out.below hb); clear hb))
   all_goals
    go_wp2
    go_ret
    rw [HS.out]
    exact ⟨_, rfl, H2.out.1, H2.out.2⟩
 | ok r =>
   obtain ⟨x, j⟩ := r
   rw [hy] at d1
   have HS := qh (show res = .ok (mk 12 (p1, p2) sNot 0 [x], j) by rw [HS0.out, hy])
   have D1 := qh d1
   clear d1 hy HS0
   have HD := qh (H.out.below ((Below.refl _ _).drew))
   have TD := qh (T.out.below ((Below.refl _ _).drew) T.out.lt)
   go_wp2
   go_region_law (first
    | (go_simp; go_at_call 97; (with_reducible refine D1.out.mono ?_); rintro e x ⟨bx, rfl, hp, hg, hr⟩; have HR := qh (hr.more (S' := fun y => w.heap.size ≤ y) fun y hy _ => Nat.le_trans HD.out.2.size hy); have HX2 := qh (HD.out.trans ⟨hp, hg⟩); have T2 := qh (TD.out.grown hg (fun e => by injection e with e; omega)); clear hp hg hr; obtain ⟨-, a1, -, -, -, -, -, -, -, -⟩ := T2.out.tok)
    | (go_simp; go_at_call 83; (with_reducible refine (node_1 (B := w.heap.size) HX2.out.2.size 12 12 rfl p1 p2 sNot HR.out).mono ?_); rintro e wy ⟨b, rfl, hb, hr⟩; have H2 := qh (HX2.out.below hb); have HR2 := qh hr; clear hb hr))
   all_goals
    go_wp2
    go_ret
    rw [HS.out]
    exact ⟨b, rfl, H2.out.1, H2.out.2, HR2.out⟩
set_option maxRecDepth 100000 in set_option maxHeartbeats 6400000 in
theorem rfac_set {el : Nat → Except Nat (T1 × Nat)} {lo : Nat} {w0 : World} {br c : Nat} {A : Option Addr} {L : List PT} (ht : Toks w0 br A L) (ok : OKRow L) (hL : RnOK 92 el lo w0 br A c L) (hm : SpOK L el) (hme : ∀ j k, j ≤ 60000 → el j = .error k → k ≤ 80000) (i : Nat) (hlo : lo ≤ i + 1) (hi : i ≤ 60000) (w : World) (h : QInv w0 w br A c L i false) (hk : ¬ (2 ≤ (tk L i).1.kind ∧ (tk L i).1.kind ≤ 4)) (hC : isT L i sCur = true) :
 Calls Try.prog 97 #[.pointer (some ⟨br, 0, none⟩)] w (RefR w.heap.size w0 w br A c L (match betweenP L el sRuc (i + 1) with | .error k => .error k | .ok (l, j) => .ok (mk 8 (pos L i) sNil 0 (zeroT :: l), j))) := by
 have hbr0 := h.row.lt
 have hlen := ht.len
 have H0 := qh h
 have H := qh (QG.start h)
 have HT := qh ht
 have HOK := qh ok
 have N1 := qh (rnow_any ht (by omega) w h)
 obtain ⟨k, p1, p2, q1, q2, t, n, e1, e2⟩ := val_form (tk L i)
 have HP := qh (show pos L i = (p1, p2) by unfold pos; rw [e1])
 have HX := qh (show (tk L i).1.text = t by rw [e1])
 have HKI := qh (show (tk L i).1.kind = k by rw [e1])
 have HN := qh (show (tk L i).1.n = n by rw [e1])
 rw [e2] at N1
 clear e1 e2
 rw [HKI.out] at hk
 have k2 : ((k : Int) == 2) = false := by simp only [beq_eq_false_iff_ne, ne_eq]; omega
 have k3 : ((k : Int) == 3) = false := by simp only [beq_eq_false_iff_ne, ne_eq]; omega
 have k4 : ((k : Int) == 4) = false := by simp only [beq_eq_false_iff_ne, ne_eq]; omega
 clear hk
 have hil := isT_lt hC
 rw [HP.out]
 obtain ⟨res, hs0⟩ : ∃ res : Except Nat (T1 × Nat), res = (match betweenP L el sRuc (i + 1) with | .error k => .error k | .ok (l, j) => .ok (mk 8 (p1, p2) sNil 0 (zeroT :: l), j)) := ⟨_, rfl⟩
 rw [← hs0]
 have HS := qh hs0
 clear hs0
 have SET := qh (fun (bt : Nat) (W : World) (hW : QInv w0 W br A c L i false) (hs : w.heap.size ≤ W.heap.size) (hty : RepS (fun y => w.heap.size ≤ y) W (.node zeroT.1 zeroT.2 .no) [.pointer (some ⟨bt, 0, none⟩)]) => rset_any (B0 := w.heap.size) (p1 := p1) (p2 := p2) ht ok hL hm hme i hlo hi W hW hs hbr0 hty hC)
 clear h ht ok hL hm hme
 go_enter Try.func97, Try.ntmps97
 go_wp2_with fail
 ((with_reducible refine N1.out.mono ?_); rintro e w1 ⟨rfl, hb⟩)
 have T := qh (Lx.Blk.new w1 68 #[.int .u8 k, .complex .f64 (fl p1) (fl p2), .complex .f64 (fl q1) (fl q2), .string t, .int .i64 n])
 have H := qh ((H.out.below hb).alloc (.cells #[.int .u8 k, .complex .f64 (fl p1) (fl p2), .complex .f64 (fl q1) (fl q2), .string t, .int .i64 n] 68))
 have hw1 : w.heap.size ≤ w1.heap.size := hb.size
 have hne : ¬ br = w1.heap.size := by omega
 have hne2 : ¬ w1.heap.size = br := by omega
 obtain ⟨m1, f1, m2, f2, hlt⟩ := H.out.1.at_
 obtain ⟨c0, c1, -, c3, c4, -, -, -, -, -⟩ := T.out.tok
 clear hb N1
 have es := rsymT HT.out (i := i) (by omega) sCur _ HOK.out (by decide) H.out.1
 rw [hC] at es
 have ES := qh es
 clear es
 go_wp2_with fail
 ((with_reducible refine (ES.out).mono ?_); rintro e wx ⟨rfl, hb⟩)
 have H := qh (H.out.below hb)
 have T := qh (T.out.below hb T.out.lt)
 clear hb
 clear c0 c1 c3 c4
 obtain ⟨c0, c1, -, c3, c4, -, -, -, -, -⟩ := T.out.tok
 clear ES
 have ZR := qh (Tr.zero_rep (S := fun y => w.heap.size ≤ y) wx H.out.2.size)
 have ZB := qh ((Below.refl wx.heap.size wx).alloc (Nat.le_refl _) (.cells #[.int .u8 0, .complex .f64 0 0, .string ⟨#[]⟩, .int .i64 0, .slice none 0 0] 42))
 have HZ := qh (H.out.below ZB.out)
 have D1 := qh (SET.out _ _ HZ.out.1 HZ.out.2.size ZR.out)
 go_wp2_with fail
 refine D1.out.mono ?_
 intro e wy hy
 have HF := qh (hy.since HZ.out.2)
 clear hy
 obtain ⟨p9, he9⟩ : ∃ p, e = .returned (.pointer p) := by
  have := HF.out
  unfold RefR at this
  split at this
  ·obtain ⟨b, hb, _⟩ := this; exact ⟨_, hb⟩
  ·obtain ⟨b, hb, _⟩ := this; exact ⟨_, hb⟩
 subst he9
 go_wp2
 go_ret
 rw [HS.out]
 exact HF.out
end Go.Proofs.Ytecmjhohniipoaa.Ex
namespace Go.Proofs.Ytecmjhohniipoaa.Ex
open Go.RowKit
open Tr (Nd Fo RepS RepN Rep cellsN)
open Lx (Tk noTk Blk run_store_complexL TokAt)
open Fl
attribute [local go_sem] run_store_complexL run_field1 run_field3
theorem KN.lower {B B' : Nat} {w : World} {b : Nat} {d : Nd} {sv : Value} {xs : List Value} (h : KN B w b d sv xs) (hB : B' ≤ B) : KN B' w b d sv xs := ⟨h.blk, Lx.own_mono h.own hB, Nat.le_trans hB h.low⟩
theorem KG.lower {B0 B B' : Nat} {w : World} {b : Nat} {d : Nd} {sv : Value} {acc : List T1} {xs : List Value} (h : KG B0 B w b d sv acc xs) (hB : B' ≤ B) : KG B0 B' w b d sv acc xs := ⟨h.kn.lower hB, h.rep, h.len⟩
set_option maxRecDepth 100000 in set_option maxHeartbeats 6400000 in
theorem rfac_des {dp ex el : Nat → Except Nat (T1 × Nat)} {e : Par T1} (he : Good e) {lo : Nat} {w0 : World} {br c : Nat} {A : Option Addr} {L : List PT} (ht : Toks w0 br A L) (ok : OKRow L) (hx : ∀ j, ex j = e L j) (hE : RnOK 63 ex (lo + 1) w0 br A c L) (hm : SpOK L ex) (hD : RnOK 66 dp lo w0 br A c L) (hdm : SpOK L dp) (hdot : ∀ i x j, dp i = .ok (x, j) → dotT x) (hL : RnOK 92 el (lo + 1) w0 br A c L) (hml : SpOK L el) (hme : ∀ j k, j ≤ 60000 → el j = .error k → k ≤ 80000) (hde : ∀ j k, j ≤ 60000 → dp j = .error k → k ≤ 80000)
 (i : Nat) (hlo : lo ≤ i) (hi : i ≤ 60000) (w : World) (h : QInv w0 w br A c L i false) (hk : ¬ (2 ≤ (tk L i).1.kind ∧ (tk L i).1.kind ≤ 4)) (hC : isT L i sCur = false) (hP : isT L i sPar = false) (hN : isT L i sNot = false) :
 Calls Try.prog 97 #[.pointer (some ⟨br, 0, none⟩)] w (RefR w.heap.size w0 w br A c L (match dp i with | .error k => .error k | .ok (x, j) => if plainT x = true ∧ isT L j sCur = true then (match betweenP L el sRuc (j + 1) with | .error k => .error k | .ok (l, j2) => .ok (mk 8 (pos L i) sNil 0 (x :: l), j2)) else if isT L j sPar = true then (match betweenP L ex sRap (j + 1) with | .error k => .error k | .ok (l, j2) => .ok (mk 10 (pos L j) sNil 0 (x :: l), j2)) else .ok (x, j))) := by
 have hbr0 := h.row.lt
 have hlen := ht.len
 have H0 := qh h
 have H := qh (QG.start h)
 have HT := qh ht
 have HOK := qh ok
 have N1 := qh (rnow_any ht (by omega) w h)
 obtain ⟨k, p1, p2, q1, q2, t, n, e1, e2⟩ := val_form (tk L i)
 have HP := qh (show pos L i = (p1, p2) by unfold pos; rw [e1])
 have HX := qh (show (tk L i).1.text = t by rw [e1])
 have HKI := qh (show (tk L i).1.kind = k by rw [e1])
 have HN := qh (show (tk L i).1.n = n by rw [e1])
 rw [e2] at N1
 clear e1 e2
 rw [HKI.out] at hk
 have k2 : ((k : Int) == 2) = false := by simp only [beq_eq_false_iff_ne, ne_eq]; omega
 have k3 : ((k : Int) == 3) = false := by simp only [beq_eq_false_iff_ne, ne_eq]; omega
 have k4 : ((k : Int) == 4) = false := by simp only [beq_eq_false_iff_ne, ne_eq]; omega
 clear hk
 rw [HP.out]
 obtain ⟨res, hs0⟩ : ∃ res : Except Nat (T1 × Nat), res = (match dp i with | .error k => .error k | .ok (x, j) => if plainT x = true ∧ isT L j sCur = true then (match betweenP L el sRuc (j + 1) with | .error k => .error k | .ok (l, j2) => .ok (mk 8 (p1, p2) sNil 0 (x :: l), j2)) else if isT L j sPar = true then (match betweenP L ex sRap (j + 1) with | .error k => .error k | .ok (l, j2) => .ok (mk 10 (pos L j) sNil 0 (x :: l), j2)) else .ok (x, j)) := ⟨_, rfl⟩
 rw [← hs0]
 have HS0 := qh hs0
 clear hs0
 have SET := qh (fun (j bt : Nat) (hj : lo + 1 ≤ j) (hj6 : j ≤ 60000) (x : T1) (W : World) (hW : QInv w0 W br A c L j false) (hs : w.heap.size ≤ W.heap.size) (hty : RepS (fun y => w.heap.size ≤ y) W (.node x.1 x.2 .no) [.pointer (some ⟨bt, 0, none⟩)]) (hC : isT L j sCur = true) => rset_any (B0 := w.heap.size) (p1 := p1) (p2 := p2) ht ok hL hml hme j (by omega) hj6 W hW hs hbr0 hty hC)
 have ARGS := qh (fun (j : Nat) (hj : lo + 1 ≤ j) (hj6 : j ≤ 60000) (W : World) (hW : QInv w0 W br A c L j false) (hP : isT L j sPar = true) => rargs_any he ht ok hx hE hm j hj hj6 W hW hP)
 obtain ⟨i0, hi0, hz0, hz1, hz2⟩ := info_parts infoN
 have HDO := qh hdot
 have HDM := qh hdm
 have HDE := qh hde
 have D0 := qh (fun W hW => hD i hlo hi W hW)
 clear h ht ok hE hm hx he hD hdm hdot hL hml hme hde
 go_enter Try.func97, Try.ntmps97
 go_wp2_with fail
 ((with_reducible refine N1.out.mono ?_); rintro e w1 ⟨rfl, hb⟩)
 have T := qh (Lx.Blk.new w1 68 #[.int .u8 k, .complex .f64 (fl p1) (fl p2), .complex .f64 (fl q1) (fl q2), .string t, .int .i64 n])
 have H := qh ((H.out.below hb).alloc (.cells #[.int .u8 k, .complex .f64 (fl p1) (fl p2), .complex .f64 (fl q1) (fl q2), .string t, .int .i64 n] 68))
 have hw1 : w.heap.size ≤ w1.heap.size := hb.size
 have hne : ¬ br = w1.heap.size := by omega
 have hne2 : ¬ w1.heap.size = br := by omega
 obtain ⟨m1, f1, m2, f2, hlt⟩ := H.out.1.at_
 obtain ⟨c0, c1, -, c3, c4, -, -, -, -, -⟩ := T.out.tok
 clear hb N1
 have es := rsymT HT.out (i := i) (by omega) sCur _ HOK.out (by decide) H.out.1
 rw [hC] at es
 have ES := qh es
 clear es
 go_wp2_with fail
 ((with_reducible refine (ES.out).mono ?_); rintro e wx ⟨rfl, hb⟩)
 have H := qh (H.out.below hb)
 have T := qh (T.out.below hb T.out.lt)
 clear hb
 clear c0 c1 c3 c4
 obtain ⟨c0, c1, -, c3, c4, -, -, -, -, -⟩ := T.out.tok
 clear ES
 have EY := qh (reatT_no HT.out (i := i) (by omega) sPar _ HOK.out (by decide) H.out.1 hP)
 go_wp2_with fail
 ((with_reducible refine (EY.out).mono ?_); rintro e wx ⟨rfl, hb⟩)
 have H := qh (H.out.trans hb)
 have T := qh (T.out.grown hb.2 (fun e => by injection e with e; omega))
 clear hb
 clear c0 c1 c3 c4
 obtain ⟨c0, c1, -, c3, c4, -, -, -, -, -⟩ := T.out.tok
 clear EY
 have EY := qh (reatwT_no HT.out (i := i) (by omega) sNot _ HOK.out (by decide) H.out.1 hN)
 go_wp2_with fail
 ((with_reducible refine (EY.out).mono ?_); rintro e wx ⟨rfl, hb⟩)
 have H := qh (H.out.trans hb)
 have T := qh (T.out.grown hb.2 (fun e => by injection e with e; omega))
 clear hb
 clear c0 c1 c3 c4
 obtain ⟨c0, c1, -, c3, c4, -, -, -, -, -⟩ := T.out.tok
 clear EY
 have d1 := D0.out _ H.out.1
 cases hy : dp i with
 | error k9 =>
   rw [hy] at d1
   have HS := qh (show res = .error k9 by rw [HS0.out, hy])
   have D1 := qh d1
   have hk8 := HDE.out _ _ (by omega) hy
   clear d1 hy HS0
   go_wp2_with fail
   ((with_reducible refine (D1.out).mono ?_); rintro e wx ⟨p9, rfl, hp, hg⟩)
   have H := qh (H.out.trans ⟨hp, hg⟩)
   have T := qh (T.out.grown hg (fun e => by injection e with e; omega))
   clear hp hg
   clear c0 c1 c3 c4
   obtain ⟨c0, c1, -, c3, c4, -, -, -, -, -⟩ := T.out.tok
   have ES := qh (rsym_bad HT.out (by omega) sCur _ H.out.1)
   go_wp2_with fail
   ((with_reducible refine (ES.out).mono ?_); rintro e wx ⟨rfl, hb⟩)
   have H := qh (H.out.below hb)
   have T := qh (T.out.below hb T.out.lt)
   clear hb
   clear c0 c1 c3 c4
   obtain ⟨c0, c1, -, c3, c4, -, -, -, -, -⟩ := T.out.tok
   clear ES
   have ES := qh (rsym_bad HT.out (by omega) sPar _ H.out.1)
   go_wp2_with fail
   ((with_reducible refine (ES.out).mono ?_); rintro e wx ⟨rfl, hb⟩)
   have H := qh (H.out.below hb)
   have T := qh (T.out.below hb T.out.lt)
   clear hb
   clear c0 c1 c3 c4
   obtain ⟨c0, c1, -, c3, c4, -, -, -, -, -⟩ := T.out.tok
   clear ES
   go_wp2
   go_ret
   rw [HS.out]
   exact ⟨_, rfl, H.out.1, H.out.2⟩
 | ok r =>
   obtain ⟨x1, j⟩ := r
   rw [hy] at d1
   have hj := HDM.out _ _ _ hy
   have hdx := HDO.out _ _ _ hy
   have HS1 := qh (show res = (if plainT x1 = true ∧ isT L j sCur = true then (match betweenP L el sRuc (j + 1) with | .error k => .error k | .ok (l, j2) => .ok (mk 8 (p1, p2) sNil 0 (x1 :: l), j2)) else if isT L j sPar = true then (match betweenP L ex sRap (j + 1) with | .error k => .error k | .ok (l, j2) => .ok (mk 10 (pos L j) sNil 0 (x1 :: l), j2)) else .ok (x1, j)) by rw [HS0.out, hy])
   have D1 := qh d1
   clear d1 hy HS0
   go_wp2_with fail
   ((with_reducible refine (D1.out).mono ?_); rintro e wx ⟨bx, rfl, hp, hg, hr⟩)
   have HX_ := qh (hr.more (S' := fun y => w.heap.size ≤ y) fun y hy _ => Nat.le_trans H.out.2.size hy)
   have H := qh (H.out.trans ⟨hp, hg⟩)
   have T := qh (T.out.grown hg (fun e => by injection e with e; omega))
   clear hp hg hr
   clear c0 c1 c3 c4
   obtain ⟨c0, c1, -, c3, c4, -, -, -, -, -⟩ := T.out.tok
   cases hCj : isT L j sCur with
   | true =>
     have hPj := isT_other (s' := sPar) hCj (by decide)
     have es := rsymT HT.out (i := j) (by omega) sCur _ HOK.out (by decide) H.out.1
     rw [hCj] at es
     have ES := qh es
     clear es
     go_wp2_with fail
     ((with_reducible refine (ES.out).mono ?_); rintro e wx ⟨rfl, hb⟩)
     have H := qh (H.out.below hb)
     have T := qh (T.out.below hb T.out.lt)
     have HX_ := qh (HX_.out.below hb)
     clear hb
     clear c0 c1 c3 c4
     obtain ⟨c0, c1, -, c3, c4, -, -, -, -, -⟩ := T.out.tok
     clear ES
     have pl := rplain_any x1.2 x1.1 bx wx hdx HX_.out.rep
     cases hpl : plainT x1 with
     | true =>
       rw [show plainF (.node x1.1 x1.2 .no) = true from hpl] at pl
       have PL := qh pl
       have HS := qh (HS1.out.trans (if_pos ⟨hpl, hCj⟩))
       have D1 := qh (SET.out j _ (by omega) (by omega) x1 _ H.out.1 H.out.2.size HX_.out hCj)
       clear pl HS1
       go_wp2_with fail
       ((with_reducible refine PL.out.mono ?_); rintro e wy ⟨rfl, rfl⟩)
       go_wp2_with fail
       refine D1.out.mono ?_
       intro e wy hy
       have HF := qh (hy.since H.out.2)
       clear hy
       obtain ⟨p9, he9⟩ : ∃ p, e = .returned (.pointer p) := by
        have := HF.out
        unfold RefR at this
        split at this
        ·obtain ⟨b, hb, _⟩ := this; exact ⟨_, hb⟩
        ·obtain ⟨b, hb, _⟩ := this; exact ⟨_, hb⟩
       subst he9
       go_wp2
       go_ret
       rw [HS.out]
       exact HF.out
     | false =>
       rw [show plainF (.node x1.1 x1.2 .no) = false from hpl] at pl
       have PL := qh pl
       have HS := qh (HS1.out.trans ((if_neg (by rw [hpl]; simp)).trans (if_neg (by rw [hPj]; simp))))
       clear pl HS1
       go_wp2_with fail
       ((with_reducible refine PL.out.mono ?_); rintro e wy ⟨rfl, rfl⟩)
       have es := rsymT HT.out (i := j) (by omega) sPar _ HOK.out (by decide) H.out.1
       rw [hPj] at es
       have ES := qh es
       clear es
       go_wp2_with fail
       ((with_reducible refine (ES.out).mono ?_); rintro e wx ⟨rfl, hb⟩)
       have H := qh (H.out.below hb)
       have T := qh (T.out.below hb T.out.lt)
       have HX_ := qh (HX_.out.below hb)
       clear hb
       clear c0 c1 c3 c4
       obtain ⟨c0, c1, -, c3, c4, -, -, -, -, -⟩ := T.out.tok
       clear ES
       go_wp2
       go_ret
       rw [HS.out]
       exact ⟨bx, rfl, H.out.1, H.out.2, HX_.out⟩
   | false =>
     have HS2 := qh (HS1.out.trans (if_neg (by rw [hCj]; simp)))
     clear HS1
     have es := rsymT HT.out (i := j) (by omega) sCur _ HOK.out (by decide) H.out.1
     rw [hCj] at es
     have ES := qh es
     clear es
     go_wp2_with fail
     ((with_reducible refine (ES.out).mono ?_); rintro e wx ⟨rfl, hb⟩)
     have H := qh (H.out.below hb)
     have T := qh (T.out.below hb T.out.lt)
     have HX_ := qh (HX_.out.below hb)
     clear hb
     clear c0 c1 c3 c4
     obtain ⟨c0, c1, -, c3, c4, -, -, -, -, -⟩ := T.out.tok
     clear ES
     cases hPj : isT L j sPar with
     | false =>
       have HS := qh (HS2.out.trans (if_neg (by rw [hPj]; simp)))
       clear HS2
       have es := rsymT HT.out (i := j) (by omega) sPar _ HOK.out (by decide) H.out.1
       rw [hPj] at es
       have ES := qh es
       clear es
       go_wp2_with fail
       ((with_reducible refine (ES.out).mono ?_); rintro e wx ⟨rfl, hb⟩)
       have H := qh (H.out.below hb)
       have T := qh (T.out.below hb T.out.lt)
       have HX_ := qh (HX_.out.below hb)
       clear hb
       clear c0 c1 c3 c4
       obtain ⟨c0, c1, -, c3, c4, -, -, -, -, -⟩ := T.out.tok
       clear ES
       go_wp2
       go_ret
       rw [HS.out]
       exact ⟨bx, rfl, H.out.1, H.out.2, HX_.out⟩
     | true =>
       have HS1 := qh (HS2.out.trans (if_pos hPj))
       clear HS2
       have es := rsymT HT.out (i := j) (by omega) sPar _ HOK.out (by decide) H.out.1
       rw [hPj] at es
       have ES := qh es
       clear es
       go_wp2_with fail
       ((with_reducible refine (ES.out).mono ?_); rintro e wx ⟨rfl, hb⟩)
       have H := qh (H.out.below hb)
       have T := qh (T.out.below hb T.out.lt)
       have HX_ := qh (HX_.out.below hb)
       clear hb
       clear c0 c1 c3 c4
       obtain ⟨c0, c1, -, c3, c4, -, -, -, -, -⟩ := T.out.tok
       clear ES
       obtain ⟨k8, r1, r2, s1, s2, t8, n8, e1, e2⟩ := val_form (tk L j)
       have HPJ := qh (show pos L j = (r1, r2) by unfold pos; rw [e1])
       have n2 := rnow_any HT.out (by omega) _ H.out.1
       rw [e2] at n2
       have N2 := qh n2
       clear n2 e1 e2
       go_wp2_with fail
       ((with_reducible refine (N2.out).mono ?_); rintro e wx ⟨rfl, hb⟩)
       have H := qh (H.out.below hb)
       have HX_ := qh (HX_.out.below hb)
       clear hb
       clear T N2
       clear c0 c1 c3 c4
       have NW := qh (node_kn (w := wx) 10 10 rfl r1 r2 sNil (some ⟨bx, 0, none⟩) none)
       go_wp2_with fail
       ((with_reducible refine NW.out.mono ?_); rintro e wz ⟨b, sv, rfl, hn⟩)
       have HK := qh ((KG.start1 (B0 := w.heap.size) hn HX_.out).lower H.out.2.size)
       have hlb := Nat.le_trans H.out.2.size hn.low
       have H := qh (H.out.below hn.bel)
       clear hn NW
       have d1 := ARGS.out j (by omega) (by omega) wz.drew (H.out.below ((Below.refl _ _).drew)).1 hPj
       have hjn := isT_lt hPj
       cases hy : betweenP L ex sRap (j + 1) with
       | error k9 =>
         rw [hy] at d1
         have HS := qh (show res = .error k9 by rw [HS1.out, hy])
         have D1 := qh d1
         clear d1 hy HS1
         have HD := qh (H.out.below ((Below.refl _ _).drew))
         have HKD := qh (HK.out.below ((Below.refl _ _).drew))
         obtain ⟨m4, m4f, hbl4⟩ := HK.out.kn.facts
         go_wp2
         go_region_law (first
          | (go_simp; go_at_call 69; (with_reducible refine D1.out.mono ?_); rintro e x ⟨A', c', vs, rfl, hp, hg, hld⟩; have HKX := qh (HKD.out.kn.grown hg hbr0); have HX2 := qh (HD.out.trans ⟨hp, hg⟩); have RD := qh hld; clear hp hg hld; obtain ⟨t4, t4f, hbx⟩ := HKX.out.facts)
          | (refine step_app _ (by rfl) _ _ _ (by rfl) w.heap.size 26 i0 _ 1 8 Try.underlying40 hi0 hz0 hz1 hz2 rfl (by omega) sv 1 [.pointer (some ⟨bx, 0, none⟩)] (by rfl) HKX.out.own _ A' vs.length c' vs (by rfl) RD.out.reads RD.out.one (by have := RD.out.few; unfold maxLen; omega) (by have := RD.out.few; omega) (by omega) ?_; intro A2 c2 w5 hown hgk; obtain ⟨s4, s4f, hb5⟩ := KN.after HKX.out hgk; skip; have H2 := qh ((HX2.out.gfar H0.out hgk (fun k e => (HKX.out.own.lt _ e).1)).far H0.out hlb 4 (.slice A2 (1 + vs.length) c2)); clear hown hgk))
         all_goals
          go_wp2
          go_ret
          rw [HS.out]
          exact ⟨_, rfl, H2.out.1, H2.out.2⟩
       | ok r =>
         obtain ⟨l, j2⟩ := r
         rw [hy] at d1
         have HS := qh (show res = .ok (mk 10 (r1, r2) sNil 0 (x1 :: l), j2) by rw [HS1.out, hy, HPJ.out])
         have D1 := qh d1
         clear d1 hy HS1
         have HD := qh (H.out.below ((Below.refl _ _).drew))
         have HKD := qh (HK.out.below ((Below.refl _ _).drew))
         obtain ⟨m4, m4f, hbl4⟩ := HK.out.kn.facts
         go_wp2
         go_region_law (first
          | (go_simp; go_at_call 69; (with_reducible refine D1.out.mono ?_); rintro e x ⟨A', c', vs, rfl, hp, hg, hld, hr, hvl⟩; have HKX := qh (HKD.out.grown hg hbr0 (Nat.le_refl _)); have HY := qh (HKD.out.new hr (Nat.le_refl _)); have HX2 := qh (HD.out.trans ⟨hp, hg⟩); have RD := qh hld; have HVL := qh hvl; clear hp hg hr hld hvl; obtain ⟨t4, t4f, hbx⟩ := HKX.out.kn.facts)
          | (refine step_app _ (by rfl) _ _ _ (by rfl) w.heap.size 26 i0 _ 1 8 Try.underlying40 hi0 hz0 hz1 hz2 rfl (by omega) sv 1 [.pointer (some ⟨bx, 0, none⟩)] (by rfl) HKX.out.kn.own _ A' vs.length c' vs (by rfl) RD.out.reads RD.out.one (by have := RD.out.few; unfold maxLen; omega) (by have := RD.out.few; omega) (by omega) ?_; intro A2 c2 w5 hown hgk; obtain ⟨s4, s4f, hb5⟩ := KN.after HKX.out.kn hgk; have K2 := qh (KG.all HKX.out HY.out rfl hown hgk (Nat.le_refl _)); have H2 := qh ((HX2.out.gfar H0.out hgk (fun k e => (HKX.out.kn.own.lt _ e).1)).far H0.out hlb 4 (.slice A2 (1 + vs.length) c2)); clear hown hgk))
         all_goals
          go_wp2
          go_ret
          rw [HS.out]
          exact ⟨b, rfl, H2.out.1, H2.out.2, K2.out⟩
end Go.Proofs.Ytecmjhohniipoaa.Ex
end
