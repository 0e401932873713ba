/- A part of the proof: V8. -/
import Derived.Test.YtecmjhohniipoaaZ1
import Derived.Test.YtecmjhohniipoaaZ32
import Derived.Test.YtecmjhohniipoaaZ33
import Derived.Test.YtecmjhohniipoaaZ35
import Derived.Deep.Cut
import Derived.Deep.CutBlock
import Derived.Deep.CutRange
import Derived.Deep.AppendLies
import Derived.Deep.LoopGhost
set_option linter.unusedSimpArgs false
set_option linter.unusedVariables false

section
namespace Go.Proofs.Ytecmjhohniipoaa.Rs
open Go.RowKit
open Tr (Nd Fo RepS RepN Rep cellsN)
open Lx (Tk noTk Blk run_store_complexL TokAt)
open Fl
open Ex
attribute [local go_sem] run_store_complexL run_field1 run_field3 St.run_field0
open St (sSem sAsg sCol sBar sIf sThen sElsif sElse sEnd sCase sOf sWhile sDo sRepeat sUntil sLoop sExit sFor sTo sBy sWith sReturn isWd6 whileS repS loopS exitS withS endS ifS ifsF elseS caseS armsF armOut forS forE returnS retOut plainS bodyR bodyG stmS stmL alts)
theorem RefU.since {w0 w wr w1 : World} {br : Nat} {A : Option Addr} {c : Nat} {L : List PT} {R : Except Nat (T1 × Nat)} {e : Ending} (h : RefU wr.heap.size w0 wr br A c L R e w1) (hg : w.grownBy wr (some br)) : RefU w.heap.size w0 w br A c L R e w1 := by
 obtain ⟨p, e1, h1, h2, h3⟩ := h
 exact ⟨p, e1, h1, grown_trans hg h2, fun x j e => (h3 x j e).more fun y hy _ => Nat.le_trans hg.size hy⟩
set_option maxRecDepth 100000 in set_option maxHeartbeats 6400000 in
theorem rst_if {g : Nat} {w0 : World} {br c : Nat} {A : Option Addr} {L : List PT} (ht : Toks w0 br A L) (ok : OKRow L) (hg : L.length < g) {bd : Par T1} (hb2 : St.Good2 bd) {lo : Nat} (hB : UnOK 18 bd (lo + 1) w0 br A c L) (i : Nat) (hlo : lo ≤ i) (hi : i ≤ 60000) (w : World) (h : QInv w0 w br A c L i false) (hk6 : (tk L i).1.kind = 6) (htx : (tk L i).1.text = sIf) :
 Calls Try.prog 42 #[.pointer (some ⟨br, 0, none⟩)] w (RefU w.heap.size w0 w br A c L (ifS g bd (tk L i).2.1 L (i + 1))) := by
 have hbr0 := h.row.lt
 have hlen := ht.len
 have H := qh (QG.start h)
 have HT := qh ht
 have HOK := qh ok
 have hil : i < L.length := by
  rcases Nat.lt_or_ge i L.length with h | h
  ·exact h
  ·rw [kind_end h] at hk6; cases hk6
 have HF := qh (fun (p1 p2 : Nat) (w : World) (h : QInv w0 w br A c L (i + 1) false) => rbranches ht ok hg hb2 hB (i + 1) (by omega) (by omega) p1 p2 w h)
 have N1 := rnow_any ht (i := i) (by omega) w h
 obtain ⟨k, p1, p2, q1, q2, t, n, e1, e2⟩ := val_form (tk L i)
 rw [e2] at N1
 have N1 := qh N1
 have HK6 := qh hk6
 have HTX := qh htx
 rw [show (tk L i).2.1 = (p1, p2) by rw [e1]]
 clear h ht ok hb2 hB e1 e2 hk6 htx
 go_enter Try.func42, Try.ntmps42
 go_wp2_with fail
 ((with_reducible refine N1.out.mono ?_); rintro e wx ⟨rfl, hb⟩)
 have H := qh (H.out.below hb)
 clear hb N1
 have EW := qh (reatwT_yes HT.out (i := i) (by omega) sIf _ HOK.out (by decide) H.out.1 (isT_yt HK6.out HTX.out))
 go_wp2_with fail
 ((with_reducible refine EW.out.mono ?_); rintro e wx ⟨rfl, hb⟩)
 have H := qh (H.out.trans hb)
 clear hb EW
 have D1 := qh (HF.out p1 p2 wx H.out.1)
 go_wp2_with fail
 refine D1.out.mono ?_
 intro e wy hy
 have HY := qh (hy.since H.out.2)
 obtain ⟨p9, he, -⟩ := hy
 subst he
 clear D1
 go_wp2
 go_ret
 exact HY.out
set_option maxRecDepth 100000 in set_option maxHeartbeats 6400000 in
theorem rst_case {g : Nat} {w0 : World} {br c : Nat} {A : Option Addr} {L : List PT} (ht : Toks w0 br A L) (ok : OKRow L) (hg : L.length < g) {bd : Par T1} (hb2 : St.Good2 bd) {lo : Nat} (hB : UnOK 18 bd (lo + 1) w0 br A c L) (i : Nat) (hlo : lo ≤ i) (hi : i ≤ 60000) (w : World) (h : QInv w0 w br A c L i false) (hk6 : (tk L i).1.kind = 6) (htx : (tk L i).1.text = sCase) :
 Calls Try.prog 42 #[.pointer (some ⟨br, 0, none⟩)] w (RefU w.heap.size w0 w br A c L (caseS g bd (tk L i).2.1 L (i + 1))) := by
 have hbr0 := h.row.lt
 have hlen := ht.len
 have H := qh (QG.start h)
 have HT := qh ht
 have HOK := qh ok
 have hil : i < L.length := by
  rcases Nat.lt_or_ge i L.length with h | h
  ·exact h
  ·rw [kind_end h] at hk6; cases hk6
 have HF := qh (fun (p1 p2 : Nat) (w : World) (h : QInv w0 w br A c L (i + 1) false) => rcases_ ht ok hg hb2 hB (i + 1) (by omega) (by omega) p1 p2 w h)
 have N1 := rnow_any ht (i := i) (by omega) w h
 obtain ⟨k, p1, p2, q1, q2, t, n, e1, e2⟩ := val_form (tk L i)
 rw [e2] at N1
 have N1 := qh N1
 have HK6 := qh hk6
 have HTX := qh htx
 rw [show (tk L i).2.1 = (p1, p2) by rw [e1]]
 clear h ht ok hb2 hB e1 e2 hk6 htx
 go_enter Try.func42, Try.ntmps42
 go_wp2_with fail
 ((with_reducible refine N1.out.mono ?_); rintro e wx ⟨rfl, hb⟩)
 have H := qh (H.out.below hb)
 clear hb N1
 have EW := qh (reatwT_no HT.out (i := i) (by omega) sIf _ HOK.out (by decide) H.out.1 (isT_nt HTX.out (by decide)))
 go_wp2_with fail
 ((with_reducible refine EW.out.mono ?_); rintro e wx ⟨rfl, hb⟩)
 have H := qh (H.out.trans hb)
 clear hb EW
 have EW := qh (reatwT_yes HT.out (i := i) (by omega) sCase _ HOK.out (by decide) H.out.1 (isT_yt HK6.out HTX.out))
 go_wp2_with fail
 ((with_reducible refine EW.out.mono ?_); rintro e wx ⟨rfl, hb⟩)
 have H := qh (H.out.trans hb)
 clear hb EW
 have D1 := qh (HF.out p1 p2 wx H.out.1)
 go_wp2_with fail
 refine D1.out.mono ?_
 intro e wy hy
 have HY := qh (hy.since H.out.2)
 obtain ⟨p9, he, -⟩ := hy
 subst he
 clear D1
 go_wp2
 go_ret
 exact HY.out
set_option maxRecDepth 100000 in set_option maxHeartbeats 6400000 in
theorem rst_for {g : Nat} {w0 : World} {br c : Nat} {A : Option Addr} {L : List PT} (ht : Toks w0 br A L) (ok : OKRow L) (hg : L.length < g) {bd : Par T1} (hb2 : St.Good2 bd) {lo : Nat} (hB : UnOK 18 bd (lo + 1) w0 br A c L) (i : Nat) (hlo : lo ≤ i) (hi : i ≤ 60000) (w : World) (h : QInv w0 w br A c L i false) (hk6 : (tk L i).1.kind = 6) (htx : (tk L i).1.text = sFor) :
 Calls Try.prog 42 #[.pointer (some ⟨br, 0, none⟩)] w (RefU w.heap.size w0 w br A c L (forS g bd (tk L i).2.1 L (i + 1))) := by
 have hbr0 := h.row.lt
 have hlen := ht.len
 have H := qh (QG.start h)
 have HT := qh ht
 have HOK := qh ok
 have hil : i < L.length := by
  rcases Nat.lt_or_ge i L.length with h | h
  ·exact h
  ·rw [kind_end h] at hk6; cases hk6
 have HF := qh (fun (p1 p2 : Nat) (w : World) (h : QInv w0 w br A c L (i + 1) false) => rcounts ht ok hg hb2 hB (i + 1) (by omega) (by omega) p1 p2 w h)
 have N1 := rnow_any ht (i := i) (by omega) w h
 obtain ⟨k, p1, p2, q1, q2, t, n, e1, e2⟩ := val_form (tk L i)
 rw [e2] at N1
 have N1 := qh N1
 have HK6 := qh hk6
 have HTX := qh htx
 rw [show (tk L i).2.1 = (p1, p2) by rw [e1]]
 clear h ht ok hb2 hB e1 e2 hk6 htx
 go_enter Try.func42, Try.ntmps42
 go_wp2_with fail
 ((with_reducible refine N1.out.mono ?_); rintro e wx ⟨rfl, hb⟩)
 have H := qh (H.out.below hb)
 clear hb N1
 have EW := qh (reatwT_no HT.out (i := i) (by omega) sIf _ HOK.out (by decide) H.out.1 (isT_nt HTX.out (by decide)))
 go_wp2_with fail
 ((with_reducible refine EW.out.mono ?_); rintro e wx ⟨rfl, hb⟩)
 have H := qh (H.out.trans hb)
 clear hb EW
 have EW := qh (reatwT_no HT.out (i := i) (by omega) sCase _ HOK.out (by decide) H.out.1 (isT_nt HTX.out (by decide)))
 go_wp2_with fail
 ((with_reducible refine EW.out.mono ?_); rintro e wx ⟨rfl, hb⟩)
 have H := qh (H.out.trans hb)
 clear hb EW
 have EW := qh (reatwT_no HT.out (i := i) (by omega) sWhile _ HOK.out (by decide) H.out.1 (isT_nt HTX.out (by decide)))
 go_wp2_with fail
 ((with_reducible refine EW.out.mono ?_); rintro e wx ⟨rfl, hb⟩)
 have H := qh (H.out.trans hb)
 clear hb EW
 have EW := qh (reatwT_no HT.out (i := i) (by omega) sRepeat _ HOK.out (by decide) H.out.1 (isT_nt HTX.out (by decide)))
 go_wp2_with fail
 ((with_reducible refine EW.out.mono ?_); rintro e wx ⟨rfl, hb⟩)
 have H := qh (H.out.trans hb)
 clear hb EW
 have EW := qh (reatwT_no HT.out (i := i) (by omega) sLoop _ HOK.out (by decide) H.out.1 (isT_nt HTX.out (by decide)))
 go_wp2_with fail
 ((with_reducible refine EW.out.mono ?_); rintro e wx ⟨rfl, hb⟩)
 have H := qh (H.out.trans hb)
 clear hb EW
 have EW := qh (reatwT_no HT.out (i := i) (by omega) sExit _ HOK.out (by decide) H.out.1 (isT_nt HTX.out (by decide)))
 go_wp2_with fail
 ((with_reducible refine EW.out.mono ?_); rintro e wx ⟨rfl, hb⟩)
 have H := qh (H.out.trans hb)
 clear hb EW
 have EW := qh (reatwT_yes HT.out (i := i) (by omega) sFor _ HOK.out (by decide) H.out.1 (isT_yt HK6.out HTX.out))
 go_wp2_with fail
 ((with_reducible refine EW.out.mono ?_); rintro e wx ⟨rfl, hb⟩)
 have H := qh (H.out.trans hb)
 clear hb EW
 have D1 := qh (HF.out p1 p2 wx H.out.1)
 go_wp2_with fail
 refine D1.out.mono ?_
 intro e wy hy
 have HY := qh (hy.since H.out.2)
 obtain ⟨p9, he, -⟩ := hy
 subst he
 clear D1
 go_wp2
 go_ret
 exact HY.out
set_option maxRecDepth 100000 in set_option maxHeartbeats 6400000 in
theorem rst_return {g : Nat} {w0 : World} {br c : Nat} {A : Option Addr} {L : List PT} (ht : Toks w0 br A L) (ok : OKRow L) (hg : L.length < g) {bd : Par T1} (hb2 : St.Good2 bd) {lo : Nat} (hB : UnOK 18 bd (lo + 1) w0 br A c L) (i : Nat) (hlo : lo ≤ i) (hi : i ≤ 60000) (w : World) (h : QInv w0 w br A c L i false) (hk6 : (tk L i).1.kind = 6) (htx : (tk L i).1.text = sReturn) :
 Calls Try.prog 42 #[.pointer (some ⟨br, 0, none⟩)] w (RefU w.heap.size w0 w br A c L (returnS g (tk L i).2.1 L (i + 1))) := by
 have hbr0 := h.row.lt
 have hlen := ht.len
 have H := qh (QG.start h)
 have HT := qh ht
 have HOK := qh ok
 have hil : i < L.length := by
  rcases Nat.lt_or_ge i L.length with h | h
  ·exact h
  ·rw [kind_end h] at hk6; cases hk6
 have HF := qh (fun (p1 p2 : Nat) (w : World) (h : QInv w0 w br A c L (i + 1) false) => rreturns ht ok hg hb2 hB (i + 1) (by omega) (by omega) p1 p2 w h)
 have N1 := rnow_any ht (i := i) (by omega) w h
 obtain ⟨k, p1, p2, q1, q2, t, n, e1, e2⟩ := val_form (tk L i)
 rw [e2] at N1
 have N1 := qh N1
 have HK6 := qh hk6
 have HTX := qh htx
 rw [show (tk L i).2.1 = (p1, p2) by rw [e1]]
 clear h ht ok hb2 hB e1 e2 hk6 htx
 go_enter Try.func42, Try.ntmps42
 go_wp2_with fail
 ((with_reducible refine N1.out.mono ?_); rintro e wx ⟨rfl, hb⟩)
 have H := qh (H.out.below hb)
 clear hb N1
 have EW := qh (reatwT_no HT.out (i := i) (by omega) sIf _ HOK.out (by decide) H.out.1 (isT_nt HTX.out (by decide)))
 go_wp2_with fail
 ((with_reducible refine EW.out.mono ?_); rintro e wx ⟨rfl, hb⟩)
 have H := qh (H.out.trans hb)
 clear hb EW
 have EW := qh (reatwT_no HT.out (i := i) (by omega) sCase _ HOK.out (by decide) H.out.1 (isT_nt HTX.out (by decide)))
 go_wp2_with fail
 ((with_reducible refine EW.out.mono ?_); rintro e wx ⟨rfl, hb⟩)
 have H := qh (H.out.trans hb)
 clear hb EW
 have EW := qh (reatwT_no HT.out (i := i) (by omega) sWhile _ HOK.out (by decide) H.out.1 (isT_nt HTX.out (by decide)))
 go_wp2_with fail
 ((with_reducible refine EW.out.mono ?_); rintro e wx ⟨rfl, hb⟩)
 have H := qh (H.out.trans hb)
 clear hb EW
 have EW := qh (reatwT_no HT.out (i := i) (by omega) sRepeat _ HOK.out (by decide) H.out.1 (isT_nt HTX.out (by decide)))
 go_wp2_with fail
 ((with_reducible refine EW.out.mono ?_); rintro e wx ⟨rfl, hb⟩)
 have H := qh (H.out.trans hb)
 clear hb EW
 have EW := qh (reatwT_no HT.out (i := i) (by omega) sLoop _ HOK.out (by decide) H.out.1 (isT_nt HTX.out (by decide)))
 go_wp2_with fail
 ((with_reducible refine EW.out.mono ?_); rintro e wx ⟨rfl, hb⟩)
 have H := qh (H.out.trans hb)
 clear hb EW
 have EW := qh (reatwT_no HT.out (i := i) (by omega) sExit _ HOK.out (by decide) H.out.1 (isT_nt HTX.out (by decide)))
 go_wp2_with fail
 ((with_reducible refine EW.out.mono ?_); rintro e wx ⟨rfl, hb⟩)
 have H := qh (H.out.trans hb)
 clear hb EW
 have EW := qh (reatwT_no HT.out (i := i) (by omega) sFor _ HOK.out (by decide) H.out.1 (isT_nt HTX.out (by decide)))
 go_wp2_with fail
 ((with_reducible refine EW.out.mono ?_); rintro e wx ⟨rfl, hb⟩)
 have H := qh (H.out.trans hb)
 clear hb EW
 have EW := qh (reatwT_no HT.out (i := i) (by omega) sWith _ HOK.out (by decide) H.out.1 (isT_nt HTX.out (by decide)))
 go_wp2_with fail
 ((with_reducible refine EW.out.mono ?_); rintro e wx ⟨rfl, hb⟩)
 have H := qh (H.out.trans hb)
 clear hb EW
 have EW := qh (reatwT_yes HT.out (i := i) (by omega) sReturn _ HOK.out (by decide) H.out.1 (isT_yt HK6.out HTX.out))
 go_wp2_with fail
 ((with_reducible refine EW.out.mono ?_); rintro e wx ⟨rfl, hb⟩)
 have H := qh (H.out.trans hb)
 clear hb EW
 have D1 := qh (HF.out p1 p2 wx H.out.1)
 go_wp2_with fail
 refine D1.out.mono ?_
 intro e wy hy
 have HY := qh (hy.since H.out.2)
 obtain ⟨p9, he, -⟩ := hy
 subst he
 clear D1
 go_wp2
 go_ret
 exact HY.out
theorem un_of' {F : Nat} {p : Par T1} {lo : Nat} {w0 : World} {br : Nat} {A : Option Addr} {c : Nat} {L : List PT} (h : ∀ j, lo ≤ j → j ≤ 60000 → ∀ w, QInv w0 w br A c L j false → Calls Try.prog F #[.pointer (some ⟨br, 0, none⟩)] w (RefU w.heap.size w0 w br A c L (p L j))) (hb : BdOK F w0 br A c L) : UnOK F p lo w0 br A c L := by
 intro b j hlo hj w hq
 cases b with
 | true =>
   refine (hb j hj w hq).mono ?_
   rintro e w' ⟨q, e1, h1, h2⟩
   exact ⟨q, e1, h1, h2, (fun x j e => by cases e)⟩
 | false => exact h j (hlo rfl) hj w hq
set_option maxRecDepth 100000 in set_option maxHeartbeats 6400000 in
theorem rst_any {g : Nat} {w0 : World} {br c : Nat} {A : Option Addr} {L : List PT} (ht : Toks w0 br A L) (ok : OKRow L) (hg : L.length < g) {bd : Par T1} (hb2 : St.Good2 bd) (i : Nat) (hB : UnOK 18 bd (i + 1) w0 br A c L) (hi : i ≤ 60000) (hbg : begB L i = true) :
 ∃ R : Except Nat (T1 × Nat), stmS g bd L i = andK R (fun x => retP [x]) L ∧ ∀ w, QInv w0 w br A c L i false → Calls Try.prog 42 #[.pointer (some ⟨br, 0, none⟩)] w (RefU w.heap.size w0 w br A c L R) := by
 have andb : ∀ (q : Par T1) (j : Nat), bindP q (fun x => retP [x]) L j = andK (q L j) (fun x => retP [x]) L := fun q j => and_bind
 unfold begB at hbg
 rw [Bool.or_eq_true, decide_eq_true_eq, List.any_eq_true] at hbg
 rcases hbg with hk | ⟨s, hs, hT⟩
 ·exact ⟨plainS g L i, by rw [St.stm_name hk]; exact andb _ _, fun w h => rst_name ht ok hg hb2 hB i (Nat.le_refl _) hi w h hk⟩
 ·have hw : ∀ s, Lx.isL (s.data.toList.head?.getD 0) = true → isT L i s = true → (tk L i).1.kind = 6 ∧ (tk L i).1.text = s := fun s hs hT => by
   rw [← isT_W ok i s hs] at hT
   unfold isWd at hT
   rw [Bool.and_eq_true, decide_eq_true_eq, decide_eq_true_eq] at hT
   exact hT
  unfold words9 at hs
  simp only [List.mem_cons, List.not_mem_nil, or_false] at hs
  rcases hs with rfl | rfl | rfl | rfl | rfl | rfl | rfl | rfl | rfl
  ·obtain ⟨h1, h2⟩ := hw _ (by decide) hT
   exact ⟨_, by rw [St.stm_w0 h1 h2]; exact andb _ _, fun w h => rst_if ht ok hg hb2 hB i (Nat.le_refl _) hi w h h1 h2⟩
  ·obtain ⟨h1, h2⟩ := hw _ (by decide) hT
   exact ⟨_, by rw [St.stm_w1 h1 h2]; exact andb _ _, fun w h => rst_case ht ok hg hb2 hB i (Nat.le_refl _) hi w h h1 h2⟩
  ·obtain ⟨h1, h2⟩ := hw _ (by decide) hT
   exact ⟨_, by rw [St.stm_w2 h1 h2]; exact andb _ _, fun w h => rst_while ht ok hg hb2 hB i (Nat.le_refl _) hi w h h1 h2⟩
  ·obtain ⟨h1, h2⟩ := hw _ (by decide) hT
   exact ⟨_, by rw [St.stm_w3 h1 h2]; exact andb _ _, fun w h => rst_repeat ht ok hg hb2 hB i (Nat.le_refl _) hi w h h1 h2⟩
  ·obtain ⟨h1, h2⟩ := hw _ (by decide) hT
   exact ⟨_, by rw [St.stm_w4 h1 h2]; exact andb _ _, fun w h => rst_loop ht ok hg hb2 hB i (Nat.le_refl _) hi w h h1 h2⟩
  ·obtain ⟨h1, h2⟩ := hw _ (by decide) hT
   exact ⟨_, by rw [St.stm_w5 h1 h2]; exact andb _ _, fun w h => rst_exit ht ok hg hb2 hB i (Nat.le_refl _) hi w h h1 h2⟩
  ·obtain ⟨h1, h2⟩ := hw _ (by decide) hT
   exact ⟨_, by rw [St.stm_w6 h1 h2]; exact andb _ _, fun w h => rst_for ht ok hg hb2 hB i (Nat.le_refl _) hi w h h1 h2⟩
  ·obtain ⟨h1, h2⟩ := hw _ (by decide) hT
   exact ⟨_, by rw [St.stm_w7 h1 h2]; exact andb _ _, fun w h => rst_with ht ok hg hb2 hB i (Nat.le_refl _) hi w h h1 h2⟩
  ·obtain ⟨h1, h2⟩ := hw _ (by decide) hT
   exact ⟨_, by rw [St.stm_w8 h1 h2]; exact andb _ _, fun w h => rst_return ht ok hg hb2 hB i (Nat.le_refl _) hi w h h1 h2⟩
theorem beg_no {g : Nat} {bd : Par T1} {L : List PT} {i : Nat} (h : begB L i = false) : stmS g bd L i = .ok ([], i) := by
 unfold begB at h
 rw [Bool.or_eq_false_iff, decide_eq_false_iff_not, List.any_eq_false] at h
 refine St.stm_none h.1 fun x hx => ?_
 have h2 : ∀ s ∈ words9, isWd6 s (tk L i) = false := fun s hs => by
  have h3 := h.2 s hs
  cases h4 : isWd6 s (tk L i) with
  | false => rfl
  | true =>
    unfold isWd6 at h4
    rw [Bool.and_eq_true, decide_eq_true_eq, decide_eq_true_eq] at h4
    exact absurd (isT_yt h4.1 h4.2) h3
 unfold alts at hx
 simp only [List.mem_cons, List.not_mem_nil, or_false] at hx
 rcases hx with rfl | rfl | rfl | rfl | rfl | rfl | rfl | rfl | rfl <;> exact h2 _ (by simp [words9])
set_option maxRecDepth 100000 in set_option maxHeartbeats 6400000 in
theorem rbody_step {g : Nat} {w0 : World} {br c : Nat} {A : Option Addr} {L : List PT} (ht : Toks w0 br A L) (ok : OKRow L) (hg : L.length < g) {bd : Par T1} (hb2 : St.Good2 bd) {lo : Nat}
 (hst : ∀ j, lo ≤ j → j ≤ 60000 → begB L j = true → ∃ R : Except Nat (T1 × Nat), stmS g bd L j = andK R (fun x => retP [x]) L ∧ ∀ w, QInv w0 w br A c L j false → Calls Try.prog 42 #[.pointer (some ⟨br, 0, none⟩)] w (RefU w.heap.size w0 w br A c L R))
 (i : Nat) (hlo : lo ≤ i) (hi : i ≤ 60000) (w : World) (h : QInv w0 w br A c L i false) :
 Calls Try.prog 18 #[.pointer (some ⟨br, 0, none⟩)] w (RefU w.heap.size w0 w br A c L (bodyG g bd L i)) := by
 have hbr0 := h.row.lt
 have hlen := ht.len
 have H0 := qh h
 have H := qh (QG.start h)
 have HT := qh ht
 have HOK := qh ok
 have HST := qh hst
 have HGS := qh (St.g2_stmS (g := g) hb2)
 have HBG := qh (fun (j : Nat) (hj : j ≤ 60000) (w : World) (h : QInv w0 w br A c L j false) => rbegins ht ok j hj w h)
 obtain ⟨i0, hi0, hz0, hz1, hz2⟩ := info_parts infoN
 have N1 := rnow_any ht (i := i) (by omega) w h
 obtain ⟨k, p1, p2, q1, q2, t, n, e1, e2⟩ := val_form (tk L i)
 rw [e2] at N1
 have N1 := qh N1
 obtain ⟨res, hs0⟩ : ∃ r, r = bodyG g bd L i := ⟨_, rfl⟩
 rw [← hs0]
 have HS := qh (show res = andK (.ok ([], i)) (fun a => bindP (bodyR g bd g a) (fun l => retP (mk 46 (p1, p2) sNil 0 l))) L by
  rw [hs0]
  show bindP (bodyR g bd g []) (fun l => retP (mk 46 (tk L i).2.1 sNil 0 l)) L i = _
  rw [show (tk L i).2.1 = (p1, p2) by rw [e1]]
  rfl)
 have hg0 : 0 < g := by omega
 clear h ht ok hb2 hst hs0 e1 e2
 go_enter Try.func18, Try.ntmps18
 go_wp2_with fail
 ((with_reducible refine N1.out.mono ?_); rintro e wx ⟨rfl, hb⟩)
 replace H := qh (H.out.below hb)
 clear hb N1
 have NW := qh (node7 (B := w.heap.size) (w := wx) H.out.2.size 46 46 rfl p1 p2)
 go_wp2_with fail
 ((with_reducible refine NW.out.mono ?_); rintro e wn ⟨b, rfl, hb, hk, hbl⟩)
 obtain ⟨K, hK⟩ : ∃ K : Except Nat (List T1 × Nat), K = .ok ([], i) := ⟨_, rfl⟩
 replace H := qh (show QG w0 w wn br A c L (posE K) (badE K) by rw [hK]; exact H.out.below hb)
 have HK := qh (show KU w.heap.size wn b ⟨46, (p1, p2), sNil, 0⟩ (.slice none 0 0) K [] by rw [hK]; exact KU.start hk)
 have HBD := qh (show Bd lo 60000 K by rw [hK]; exact ⟨(fun _ => hlo), hi⟩)
 have hki : posE K = i := by rw [hK]; rfl
 replace HS := qh (show res = andK K (fun a => bindP (bodyR g bd g a) (fun l => retP (mk 46 (p1, p2) sNil 0 l))) L by rw [hK]; exact HS.out)
 clear hb hk NW hK hbl
 have HKI := qh hki
 clear hki
 go_wp2_with fail
 go_loopg [] (mzK L.length K) (fun gm wr => Hid (∃ (K : Except Nat (List T1 × Nat)) (sv : Value) (xs : List Value) (f : Nat), gm = mzK L.length K ∧ QG w0 w wr br A c L (posE K) (badE K) ∧ KU w.heap.size wr b ⟨46, (p1, p2), sNil, 0⟩ sv K xs ∧ Bd lo 60000 K ∧ (badE K = false → xs.length ≤ 2 * posE K + 4) ∧ xs.length ≤ 130000 ∧ (badE K = false → L.length < posE K + f ∧ 0 < f) ∧ res = andK K (fun a => bindP (bodyR g bd f a) (fun l => retP (mk 46 (p1, p2) sNil 0 l))) L))
 case atStart => exact qh ⟨K, _, [], g, rfl, H.out, HK.out, HBD.out, (fun e => by simp), by simp, (fun e => by have := HKI.out; omega), HS.out⟩
 case round =>
  clear H HK HS HBD HKI
  clear K
  obtain ⟨K, sv, xs, f, hgk, h1_, h2_, h3_, hx1, hxl, hf1, h4_⟩ := hrel.out
  have H := qh h1_
  have HK := qh h2_
  have HBD := qh h3_
  have HB0 := qh h3_
  have HS := qh h4_
  obtain ⟨wo, rfl⟩ : ∃ wo : World, wo = wr := ⟨_, rfl⟩
  clear hrel h1_ h2_ h3_ h4_
  cases hbK : badE K with
  | true =>
    have hm2 := H.out.1.at_
    rw [hbK] at hm2
    obtain ⟨-, -, m2, -, hlt⟩ := hm2
    replace HS := qh (show res = andK K (fun l => retP (mk 46 (p1, p2) sNil 0 l)) L by
     rw [HS.out]
     rcases K with k | ⟨acc, j⟩
     ·rfl
     ·cases hbK)
    clear hbK hx1 hf1 HB0 hgk
    go_wp2
    clear m2 hlt
    go_ret
    exact HK.out.done H.out HS.out
  | false =>
    have hm2 := H.out.1.at_
    rw [hbK] at hm2
    obtain ⟨-, -, m2, -, hlt⟩ := hm2
    have hn1 : ∃ n, n = posE K := ⟨_, rfl⟩
    obtain ⟨n0, hn0⟩ := hn1
    have hq : xs.length ≤ 2 * n0 + 4 ∧ L.length < n0 + f ∧ 0 < f ∧ lo ≤ n0 ∧ n0 ≤ 60000 := by
     have a1 := hx1 hbK
     have a2 := hf1 hbK
     have a3 := HB0.out.lo hbK
     have a4 := HB0.out.hi
     refine ⟨by omega, by omega, by omega, by omega, by omega⟩
    obtain ⟨f, rfl⟩ : ∃ f', f = f' + 1 := ⟨f - 1, by omega⟩
    have hgm : mzK L.length K = L.length + 2 - n0 := by unfold mzK; rw [hbK, ← hn0]; rfl
    rw [hgm] at hgk
    replace HS := qh (show res = andK K (fun a => bindP (stmS g bd) fun s => (fun a => tokP (tT sSem) (fun _ => bindP (bodyR g bd f a) (fun l => retP (mk 46 (p1, p2) sNil 0 l))) ((fun l => retP (mk 46 (p1, p2) sNil 0 l)) a)) (a ++ s)) L by
     rw [HS.out]
     exact congrArg (fun q => andK K q L) (funext fun a => St.body_step))
    have BG := qh (fun (w : World) (h : QInv w0 w br A c L (posE K) false) => HBG.out (posE K) (by omega) w h)
    have D0 := qh (BG.out wo (hbK ▸ H.out.1))
    have HN0 := qh hn0
    have HBK := qh hbK
    clear hx1 hf1 HB0 hgm hn0 hbK
    go_wp2_with fail
    ((with_reducible refine D0.out.mono ?_); rintro e wx ⟨rfl, hb⟩)
    replace H := qh (H.out.below hb)
    replace HK := qh (HK.out.below hb)
    clear hb D0 m2 hlt BG
    go_upto_if 18 with fail
    go_cut [] from 11 to 35 (fun wc => Hid (∃ (K1 : Except Nat (List T1 × Nat)) (svm : Value) (xsm : List Value), QG w0 w wc br A c L (posE K1) (badE K1) ∧ KU w.heap.size wc b ⟨46, (p1, p2), sNil, 0⟩ svm K1 xsm ∧ Bd lo 60000 K1 ∧ xsm.length ≤ 2 * n0 + 5 ∧ n0 ≤ posE K1 ∧ res = andK K1 (fun a => tokP (tT sSem) (fun _ => bindP (bodyR g bd f a) (fun l => retP (mk 46 (p1, p2) sNil 0 l))) ((fun l => retP (mk 46 (p1, p2) sNil 0 l)) a)) L))
    case first =>
     have hn0 := HN0.out
     have hbK := HBK.out
     cases hO : begB L (posE K) with
     | true =>
       obtain ⟨R, hR1, hR2⟩ := HST.out (posE K) (by omega) (by omega) hO
       have D1 := qh (hR2 wx (hbK ▸ H.out.1))
       have h2g := (HGS.out.mono L (posE K))
       have h2l := St.g2_max HGS.out L (posE K)
       have hRp : posE (stmS g bd L (posE K)) = posE R := by rw [hR1]; rcases R with k | ⟨x, j⟩ <;> rfl
       rw [hRp] at h2g h2l
       have HRB := qh (show n0 ≤ posE R ∧ posE R ≤ 60000 by
        refine ⟨by omega, ?_⟩
        have a1 := HBD.out.hi
        rcases Nat.lt_or_ge L.length (posE K) with h5 | h5
        ·rw [h2l.2.2 (by omega)]; omega
        ·have := h2l.2.1 h5; omega)
       obtain ⟨K1, hK1⟩ : ∃ K1, K1 = pushK K R := ⟨_, rfl⟩
       have hp1 : posE K1 = posE R ∧ badE K1 = badE R := by
        rw [hK1]
        rcases K with k | ⟨acc, j⟩
        ·cases hbK
        ·exact pos_push0
       have HP1 := qh hp1
       have HK1 := qh hK1
       replace HS := qh (show res = andK K1 (fun a => tokP (tT sSem) (fun _ => bindP (bodyR g bd f a) (fun l => retP (mk 46 (p1, p2) sNil 0 l))) ((fun l => retP (mk 46 (p1, p2) sNil 0 l)) a)) L by
        rw [HS.out, hK1]
        rcases K with k | ⟨acc, j⟩
        ·cases hbK
        ·show bindP (stmS g bd) (fun s => (fun a => tokP (tT sSem) (fun _ => bindP (bodyR g bd f a) (fun l => retP (mk 46 (p1, p2) sNil 0 l))) ((fun l => retP (mk 46 (p1, p2) sNil 0 l)) a)) (acc ++ s)) L j = _
         rw [and_bind, show stmS g bd L j = _ from hR1]
         rcases R with k | ⟨x, j2⟩ <;> rfl)
       clear hR1 hR2 h2g h2l hRp hK1 hp1
       go_wp2_with fail
       ((with_reducible refine D1.out.mono ?_); rintro e wy ⟨p9, rfl, hp, hg, hr⟩)
       have HKX := qh (HK.out.grown hg hbr0)
       have HY := qh (HK.out.new hr)
       have HX := qh (H.out.trans ⟨hp, hg⟩)
       clear hp hg hr D1 H HK
       obtain ⟨m4, m4f, hbl4⟩ := HKX.out.kn.facts
       have hxl2 : xs.length ≤ 1000000 := by omega
       have Q := kid_facts (p := p9) wy.heap.size rfl (Nat.le_trans HKX.out.kn.low (Nat.le_of_lt hbl4)) HKX.out.kn.own hxl2
       go_wp2_with (at_builtin; refine wpList_append_lies _ rfl _ _ _ rfl w.heap.size 26 i0 _ 1 8 Try.underlying40 hi0 hz0 hz1 hz2 rfl (by omega) sv xs.length xs rfl Q.out.2.2.2.2 ⟨wy.heap.size, 0, none⟩ 1 1 [.pointer p9] rfl rfl Q.out.1 Q.out.2.1 (by omega) Q.out.2.2.1 (by omega) Q.out.2.2.2.1 (wy.heap.size + 1) (by rw [World.size_alloc]) ?_; intro g' cap w5 hown1 hgrow hor hlt5; obtain ⟨s4, s4f, hb5⟩ := KN.after (HKX.out.kn.below ((Below.refl _ _).alloc (Nat.le_refl _) _)) hgrow; have K2 := qh (KU.step (HKX.out.below ((Below.refl _ _).alloc (Nat.le_refl _) _)) (fun x j e => (HY.out x j e).below ((Below.refl _ _).alloc (Nat.le_refl _) _)) hown1 hgrow (hor.imp id fun e => e.trans (World.size_alloc _ _).symm)); have H2 := qh (QG.hung HX.out H0.out _ hgrow (fun k e => (HKX.out.kn.own.lt _ e).1) (u := .slice (some ⟨g', 0, none⟩) (xs.length + 1) cap) HKX.out.kn.low); clear hown1 hgrow hor hlt5)
       go_wp2_with fail
       go_meet
       exact qh ⟨K1, _, _, (by rw [HP1.out.1, HP1.out.2]; exact H2.out), (by rw [HK1.out]; exact K2.out), ⟨(fun e => by rw [HP1.out.1]; have := HRB.out.1; omega), (by rw [HP1.out.1]; exact HRB.out.2)⟩, (by simp only [List.length_append, List.length_cons, List.length_nil]; omega), (by rw [HP1.out.1]; exact HRB.out.1), HS.out⟩
     | false =>
       replace HS := qh (show res = andK K (fun a => tokP (tT sSem) (fun _ => bindP (bodyR g bd f a) (fun l => retP (mk 46 (p1, p2) sNil 0 l))) ((fun l => retP (mk 46 (p1, p2) sNil 0 l)) a)) L by
        rw [HS.out]
        refine (and_congr fun a => ?_)
        rw [and_bind, beg_no hO]
        show (fun a => tokP (tT sSem) (fun _ => bindP (bodyR g bd f a) (fun l => retP (mk 46 (p1, p2) sNil 0 l))) ((fun l => retP (mk 46 (p1, p2) sNil 0 l)) a)) (a ++ []) L (posE K) = _
        rw [List.append_nil])
       go_wp2_with fail
       go_meet
       exact qh ⟨K, sv, xs, H.out, HK.out, HBD.out, by omega, by omega, HS.out⟩
    case rest =>
     obtain ⟨K1, svm, xsm, h1_, h2_, h3_, hxl9, hnK, h4_⟩ := hcut.out
     clear H HK HS HBD hxl hcut HN0 HBK
     clear K
     rename Except Nat (List T1 × Nat) => K
     have H := qh h1_
     have HK := qh h2_
     have HBD := qh h3_
     have HS := qh h4_
     have hxl : xsm.length ≤ 130000 := by omega
     clear h1_ h2_ h3_ h4_
     have hpk := HBD.out.hi
     cases hE : eatK K sSem L with
     | false =>
       have EA := qh (ueat_no HT.out HOK.out (K := K) (by omega) sSem _ H.out.1 (by decide) hE)
       replace HS := qh (show res = andK K (fun l => retP (mk 46 (p1, p2) sNil 0 l)) L from HS.out.trans (and_eat_no (A := (fun a _ => bindP (bodyR g bd f a) (fun l => retP (mk 46 (p1, p2) sNil 0 l)))) (B := (fun l => retP (mk 46 (p1, p2) sNil 0 l))) hE))
       clear hE hpk
       go_wp2_with fail
       ((with_reducible refine EA.out.mono ?_); rintro e wx ⟨rfl, hb⟩)
       replace H := qh (show QG w0 w wx br A c L (posE K) (badE K) from H.out.trans hb)
       replace HK := qh (HK.out.grown hb.2 hbr0)
       clear hb EA
       clear hxl9 hnK
       go_wp2
       go_ret
       exact HK.out.done H.out HS.out
     | true =>
       have EA := qh (ueat_yes HT.out HOK.out (K := K) (by omega) sSem _ H.out.1 (by decide) hE)
       have hadv := pos_adv hE
       obtain ⟨K1, hK1⟩ : ∃ K1, K1 = advK K := ⟨_, rfl⟩
       replace HS := qh (show res = andK K1 (fun acc => (fun a _ => bindP (bodyR g bd f a) (fun l => retP (mk 46 (p1, p2) sNil 0 l))) acc (tk L (posE K))) L by rw [hK1]; exact HS.out.trans (and_eat_yes (A := (fun a _ => bindP (bodyR g bd f a) (fun l => retP (mk 46 (p1, p2) sNil 0 l)))) (B := (fun l => retP (mk 46 (p1, p2) sNil 0 l))) hE))
       replace HBD := qh (show Bd (lo) 60000 K1 by rw [hK1]; exact HBD.out.adv (by omega) hE)
       go_wp2_with fail
       ((with_reducible refine EA.out.mono ?_); rintro e wx ⟨rfl, hb⟩)
       replace H := qh (show QG w0 w wx br A c L (posE (advK K)) (badE (advK K)) from H.out.trans hb)
       replace HK := qh (HK.out.grown hb.2 hbr0)
       clear hb EA
       replace HK := qh (show KU w.heap.size wx b _ _ K1 _ by rw [hK1]; exact HK.out.to_ adv_to)
       replace H := qh (show QG w0 w wx br A c L (posE K1) (badE K1) by rw [hK1]; exact H.out)
       have hp1 : posE K1 = posE K + 1 ∧ badE K1 = false ∧ badE K = false ∧ posE K < L.length := by rw [hK1]; exact hadv
       clear hadv hE hpk hK1
       replace HS := qh (show res = andK K1 (fun a => bindP (bodyR g bd f a) (fun l => retP (mk 46 (p1, p2) sNil 0 l))) L from HS.out)
       have hq2 : posE K1 = posE K + 1 ∧ n0 ≤ posE K ∧ posE K < L.length := ⟨hp1.1, hnK, hp1.2.2.2⟩
       go_wp2
       go_roundg (mzK L.length K1)
       case measure =>
        unfold mzK
        rw [hp1.2.1]
        simp only [Bool.false_eq_true, if_false]
        omega
       case rel => exact qh ⟨K1, svm, xsm, f, rfl, H.out, HK.out, HBD.out, (fun e => by omega), hxl, (fun e => by omega), HS.out⟩
theorem rbody_any {g : Nat} {w0 : World} {br c : Nat} {A : Option Addr} {L : List PT} (ht : Toks w0 br A L) (ok : OKRow L) (hg : L.length < g) : ∀ (f lo : Nat), L.length < lo + f → UnOK 18 (St.bodyF g (f + 1)) lo w0 br A c L := by
 have key : ∀ (f lo : Nat), (∀ j, lo ≤ j → j ≤ 60000 → begB L j = true → ∃ R : Except Nat (T1 × Nat), stmS g (St.bodyF g f) L j = andK R (fun x => retP [x]) L ∧ ∀ w, QInv w0 w br A c L j false → Calls Try.prog 42 #[.pointer (some ⟨br, 0, none⟩)] w (RefU w.heap.size w0 w br A c L R)) → UnOK 18 (St.bodyF g (f + 1)) lo w0 br A c L := fun f lo hst =>
  un_of' (fun j hlo hj w h => rbody_step ht ok hg (St.g2_bodyF g f) hst j hlo hj w h) (bbody ht)
 intro f
 induction f with
 | zero =>
   intro lo hlo
   refine key 0 lo fun j hj _ hb => ?_
   have he : L.length ≤ j := by omega
   unfold begB at hb
   rw [kind_end he] at hb
   simp only [Bool.or_eq_true, decide_eq_true_eq, List.any_eq_true] at hb
   rcases hb with hb | ⟨s, _, hb⟩
   ·cases hb
   ·rw [isT_end he] at hb; cases hb
 | succ f ih =>
   intro lo hlo
   exact key (f + 1) lo fun j hj hj6 hb => rst_any ht ok hg (St.g2_bodyF g (f + 1)) j ((ih (lo + 1) (by omega)).mono (by omega)) hj6 hb
end Go.Proofs.Ytecmjhohniipoaa.Rs
end
