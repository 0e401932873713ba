/- A part of the proof: G13. -/
import Derived.Test.YtecmjhohniipoaaZ1
import Derived.Test.YtecmjhohniipoaaZ15
import Derived.Test.YtecmjhohniipoaaZ7
import Derived.Deep.AppendLies
set_option linter.unusedSimpArgs false
set_option linter.unusedVariables false

section
namespace Go.Proofs.Ytecmjhohniipoaa.Ex
open Go.RowKit
open Tr (Nd Fo RepS RepN Rep cellsN)
open Lx (Tk noTk Blk run_store_complexL TokAt)
open Fl
attribute [local go_sem] run_store_complexL run_field1 run_field3
set_option maxRecDepth 100000 in set_option maxHeartbeats 6400000 in
theorem relem_any {ex : Nat → Except Nat (T1 × Nat)} {e : Par T1} (he : Good e) {lo : Nat} {w0 : World} {br c : Nat} {A : Option Addr} {L : List PT} (ht : Toks w0 br A L) (ok : OKRow L) (hx : ∀ j, ex j = e L j) (hE : RnOK 63 ex lo w0 br A c L) (hm : SpOK L ex) :
 RnOK 92 (elemP L ex) lo w0 br A c L := by
 intro i hlo hi w h
 have hbr0 := h.row.lt
 have hlen := ht.len
 have H := qh (QG.start h)
 have HE := qh hE
 have HM := qh hm
 have HT := qh ht
 have HOK := qh ok
 have HME := qh (err_bd he hx hlen)
 have HS0 := qh (show elemP L ex i = _ from elemP.eq_1 L ex i)
 generalize elemP L ex i = res at *
 clear hE h ht hm ok hx he
 go_enter Try.func92, Try.ntmps92
 obtain ⟨k_, p1, p2, q1_, q2_, t_, n_, e1, e2⟩ := val_form (tk L i)
 have HP := qh (show pos L i = (p1, p2) by unfold pos; rw [e1])
 have n1 := rnow_any HT.out (i := i) (by omega) _ H.out.1
 rw [e2] at n1
 have N1 := qh n1
 clear n1 e1 e2
 go_wp2_with fail
 ((with_reducible refine (N1.out).mono ?_); rintro e wx ⟨rfl, hb⟩)
 have H := qh (H.out.below hb)
 clear hb
 have d1 := HE.out i hlo hi _ H.out.1
 cases hy : ex i with
 | error k =>
   rw [hy] at d1
   have HS := qh (show res = .error k by rw [HS0.out, hy])
   have D1 := qh d1
   have hk8 := HME.out _ _ (by omega) hy
   clear d1 hy HS0
   go_wp2_with fail
   ((with_reducible refine (D1.out).mono ?_); rintro e wx ⟨p9, rfl, hp, hg⟩)
   have H := qh (H.out.trans ⟨hp, hg⟩)
   clear hp hg
   have EB := qh (reat_bad HT.out (by omega) sRan _ H.out.1)
   go_wp2_with fail
   ((with_reducible refine (EB.out).mono ?_); rintro e wx ⟨rfl, hb⟩)
   have H := qh (H.out.trans hb)
   clear hb
   go_wp2
   go_ret
   rw [HS.out]
   exact ⟨_, rfl, H.out.1, H.out.2⟩
 | ok r =>
   obtain ⟨x, j⟩ := r
   rw [hy] at d1
   have hj := HM.out _ _ _ hy
   have HS1 := qh (show res = (if isT L j sRan = true then (match ex (j + 1) with
    | .error k => .error k
    | .ok (y, j2) => .ok (mk 9 (pos L i) sNil 0 [x, y], j2)) else .ok (x, j)) by rw [HS0.out, hy]; dsimp only; cases ex (j + 1) <;> rfl)
   have D1 := qh d1
   clear d1 hy HS0
   go_wp2_with fail
   ((with_reducible refine (D1.out).mono ?_); rintro e wx ⟨bx, rfl, hp, hg, hr⟩)
   have HX := qh (hr.more (S' := fun y => w.heap.size ≤ y) fun y hy _ => Nat.le_trans H.out.2.size hy)
   have H := qh (H.out.trans ⟨hp, hg⟩)
   clear hp hg hr
   cases hR : isT L j sRan with
   | false =>
     have EN := qh (reatT_no HT.out (by omega) sRan _ HOK.out (by decide) H.out.1 hR)
     have HS := qh (HS1.out.trans (if_neg (by rw [hR]; simp)))
     clear HS1
     go_wp2_with fail
     ((with_reducible refine (EN.out).mono ?_); rintro e wx ⟨rfl, hb⟩)
     have H := qh (H.out.trans hb)
     have HX := qh (repS_grown HX.out hb.2 hbr0)
     clear hb
     go_wp2
     go_ret
     rw [HS.out]
     exact ⟨bx, rfl, H.out.1, H.out.2, HX.out⟩
   | true =>
     have hjlt := isT_lt hR
     have EY := qh (reatT_yes HT.out (by omega) sRan _ HOK.out (by decide) H.out.1 hR)
     have HS2 := qh (HS1.out.trans (if_pos hR))
     clear HS1
     go_wp2_with fail
     ((with_reducible refine (EY.out).mono ?_); rintro e wx ⟨rfl, hb⟩)
     have H := qh (H.out.trans hb)
     have HX := qh (repS_grown HX.out hb.2 hbr0)
     clear hb
     have d2 := HE.out (j + 1) (by omega) (by omega) _ H.out.1
     cases hy : ex (j + 1) with
     | error k =>
       rw [hy] at d2
       have HS := qh (show res = .error k by rw [HS2.out, hy])
       have D2 := qh d2
       have hk8 := HME.out _ _ (by omega) hy
       clear d2 hy HS2
       go_wp2_with fail
       ((with_reducible refine (D2.out).mono ?_); rintro e wx ⟨p9, rfl, hp, hg⟩)
       have H := qh (H.out.trans ⟨hp, hg⟩)
       clear hp hg
       have NW := qh (node_un (w := wx) 9 9 rfl p1 p2 sNil (some ⟨bx, 0, none⟩) p9)
       go_wp2_with fail
       ((with_reducible refine NW.out.mono ?_); rintro e wx ⟨b_, rfl, hb⟩)
       have H := qh (H.out.below hb)
       clear hb NW
       go_wp2
       go_ret
       rw [HS.out]
       exact ⟨_, rfl, H.out.1, H.out.2⟩
     | ok r =>
       obtain ⟨y, j2⟩ := r
       rw [hy] at d2
       have hj2 := HM.out _ _ _ hy
       have HS := qh (show res = .ok (mk 9 (p1, p2) sNil 0 [x, y], j2) by rw [HS2.out, hy, HP.out])
       have D2 := qh d2
       clear d2 hy HS2
       go_wp2_with fail
       ((with_reducible refine (D2.out).mono ?_); rintro e wx ⟨by_, rfl, hp, hg, hr⟩)
       have HY := qh (hr.more (S' := fun y => w.heap.size ≤ y) fun y hy _ => Nat.le_trans H.out.2.size hy)
       have H := qh (H.out.trans ⟨hp, hg⟩)
       have HX := qh (repS_grown HX.out hg hbr0)
       clear hp hg hr
       have NW := qh (node_2 (B := w.heap.size) H.out.2.size 9 9 rfl p1 p2 sNil HX.out HY.out)
       go_wp2_with fail
       ((with_reducible refine NW.out.mono ?_); rintro e wx ⟨b3, rfl, hb, hr⟩)
       have H := qh (H.out.below hb)
       have HX := qh hr
       clear hb hr NW
       go_wp2
       go_ret
       rw [HS.out]
       exact ⟨b3, rfl, H.out.1, H.out.2, HX.out⟩
end Go.Proofs.Ytecmjhohniipoaa.Ex
namespace Go.Proofs.Ytecmjhohniipoaa.Ex
open Go.RowKit
open Tr (Nd Fo RepS RepN Rep cellsN)
open Lx (Tk noTk Blk run_store_complexL TokAt)
open Fl
attribute [local go_sem] run_store_complexL run_field1 run_field3
set_option maxRecDepth 100000 in set_option maxHeartbeats 6400000 in
theorem rplain_no (d : Nd) (k : Fo) (b : Nat) (w : World) (h2 : ¬ d.kind = 2) (hr : Rep w (.node d k .no) [.pointer (some ⟨b, 0, none⟩)]) :
 Calls Try.prog 101 #[.pointer (some ⟨b, 0, none⟩)] w fun e w' => e = .returned (.bool (plainF (.node d k .no))) ∧ w = w' := by
 have HRES2 := qh (show plainF (.node d k .no) = decide (d.kind = 1) from (show (if d.kind = 2 then _ else _) = _ from if_neg h2))
 obtain ⟨b', A, c, ks, e, hat, hA, hk⟩ := hr.one
 have hb : b' = b := by injection e with e; injection e with e; injection e with e; exact e.symm
 subst hb
 obtain ⟨a0, a1, a2, a3, a4⟩ := hat
 have k2 : ((d.kind : Int) == 2) = false := by simp only [beq_eq_false_iff_ne, ne_eq]; omega
 have k1 : ((d.kind : Int) == 1) = decide (d.kind = 1) := by rw [Bool.eq_iff_iff, beq_iff_eq, decide_eq_true_eq]; omega
 generalize decide (d.kind = 1) = bb at *
 clear e a1 a2 a3 a4 hk hA h2 hr
 go_enter Try.func101, Try.ntmps101
 go_wp2
 go_ret
 exact ⟨by rw [HRES2.out]; rfl, rfl⟩
set_option maxRecDepth 100000 in set_option maxHeartbeats 6400000 in
theorem rplain_any (k : Fo) : ∀ (d : Nd) (b : Nat) (w : World), dotOK (.node d k .no) → Rep w (.node d k .no) [.pointer (some ⟨b, 0, none⟩)] →
 Calls Try.prog 101 #[.pointer (some ⟨b, 0, none⟩)] w fun e w' => e = .returned (.bool (plainF (.node d k .no))) ∧ w = w' := by
 induction k with
 | no => intro d b w hd hr; exact rplain_no d .no b w (fun h => (hd h).1 rfl) hr
 | node d1 k1 r1 ih _ =>
   intro d b w hd hr
   by_cases h2 : d.kind = 2
   case neg => exact rplain_no d _ b w h2 hr
   case pos =>
    obtain ⟨hne, hdk⟩ := hd h2
    have HRES := qh (show plainF (.node d (.node d1 k1 r1) .no) = plainF (.node d1 k1 .no) from (show (if d.kind = 2 then _ else _) = _ from if_pos h2).trans rfl)
    obtain ⟨b', A, c, ks, e, hat, hA, hk⟩ := hr.one
    have hb : b' = b := by injection e with e; injection e with e; injection e with e; exact e.symm
    subst hb
    obtain ⟨a0, a1, a2, a3, a4⟩ := hat
    obtain ⟨v, vs', rfl, hv, _⟩ := hk.head
    obtain ⟨b1, _, _, _, rfl, _⟩ := hv.one
    obtain ⟨bb, off, rfl, hcell⟩ := Tr.Reads.nth (i := 0) hA (by simp)
    simp only [List.getElem_cons_zero, Nat.add_zero] at hcell
    have hlen : (0 : Int) < (((Value.pointer (some ⟨b1, 0, none⟩) :: vs').length : Nat) : Int) := by simp only [List.length_cons]; omega
    have IH := qh (ih d1 b1 w hdk hv)
    have k2 : ((d.kind : Int) == 2) = true := by rw [h2]; rfl
    generalize (Value.pointer (some ⟨b1, 0, none⟩) :: vs').length = m at *
    clear e a1 a2 a3 hk hv hA hne hdk h2 ih hd hr
    go_enter Try.func101, Try.ntmps101
    go_wp2_with fail
    ((with_reducible refine IH.out.mono ?_); rintro e w' ⟨rfl, rfl⟩)
    go_wp2
    go_ret
    exact ⟨by rw [HRES.out]; rfl, rfl⟩
end Go.Proofs.Ytecmjhohniipoaa.Ex
namespace Go.Proofs.Ytecmjhohniipoaa.Ex
open Go.RowKit
open Tr (Nd Fo RepS RepN Rep cellsN)
open Lx (Tk noTk Blk run_store_complexL TokAt)
open Fl
attribute [local go_sem] run_store_complexL run_field1 run_field3
structure MO (w wr : World) (lv : Value) (vs : List Value) : Prop where
 own : wr.ownsRow w.heap.size 26 1 lv vs.length vs
 one : ∀ v ∈ vs, v.oneCell' = true
section
variable {w0 w wr w1 w2 : World} {br c i i' : Nat} {A : Option Addr} {L : List PT} {lv : Value} {acc : List T1} {vs : List Value} {bad bad' : Bool}
theorem MB.mo (h : MB w wr lv acc vs) : MO w wr lv vs := ⟨h.own, h.one⟩
theorem MO.grown (h : MO w wr lv vs) (hg : wr.grownBy w1 (some br)) (hbr : br < w.heap.size) : MO w w1 lv vs :=
 ⟨h.own.kept hg (.inr fun e => by have := (h.own.lt _ e).1; omega), h.one⟩
theorem MB.nil (w wr : World) : MB w wr (.slice none 0 0) [] [] := ⟨World.ownsRow_nil _ _ _ _, (by unfold forest; unfold RepS; rfl), rfl, fun v hv => by cases hv⟩
theorem MO.appended {p : Option Addr} {g cap : Nat} (h : MO w wr lv vs)
 (hown : w1.ownsRow w.heap.size 26 1 (.slice (some ⟨g, 0, none⟩) (vs.length + 1) cap) (vs.length + 1) (vs ++ [.pointer p])) :
 MO w w1 (.slice (some ⟨g, 0, none⟩) (vs.length + 1) cap) (vs ++ [.pointer p]) := by
 refine ⟨by rw [List.length_append]; exact hown, fun v hv => ?_⟩
 rcases List.mem_append.1 hv with hv | hv
 ·exact h.one v hv
 ·simp only [List.mem_singleton] at hv; subst hv; rfl
theorem QG.appended {o : Obj} {row : Option Nat} (h : QG w0 w wr br A c L i bad) (hw : QInv w0 w br A c L i' bad') (hg : (wr.alloc o).grownBy w1 row) (hr : ∀ k, row = some k → w.heap.size ≤ k) : QG w0 w w1 br A c L i bad := by
 have hl := hw.row.lt
 have hs := hw.grown.size
 have h' := h.alloc o
 have hk : ∀ (a : World), a.heap.size ≤ w.heap.size → a.grownBy (wr.alloc o) (some br) → a.grownBy w1 (some br) := fun a ha h =>
  ⟨hg.os.trans h.os, hg.tape.trans h.tape, hg.output.trans h.output, Nat.le_trans h.size hg.size, fun k hk hne => (hg.block k (Nat.lt_of_lt_of_le hk h.size) (fun e => by have := hr k e.symm; omega)).trans (h.block k hk hne)⟩
 exact ⟨⟨h'.1.row.grown hg (fun e => by have := hr _ e.symm; omega), hk w0 hs h'.1.grown⟩, hk w (Nat.le_refl _) h'.2⟩
structure LD (w w' : World) (A' : Option Addr) (vs : List Value) : Prop where
 reads : Reads w' w'.heap.size 1 A' vs.length vs
 one : ∀ v ∈ vs, v.oneCell' = true
 few : vs.length ≤ 20002
 loc : ∀ ad, A' = some ad → w.heap.size ≤ ad.block
def RListR (w0 w : World) (br : Nat) (A : Option Addr) (c : Nat) (L : List PT) (r : Except Nat (List T1 × Nat)) (e : Ending) (w' : World) : Prop := match r with
 | .ok (l, j) => ∃ A' c' vs, e = .returned (.slice A' (List.length vs) c') ∧ QInv w0 w' br A c L j false ∧ w.grownBy w' (some br) ∧ LD w w' A' vs ∧ RepS (fun y => w.heap.size ≤ y) w' (forest l) vs ∧ vs.length = l.length
 | .error k => ∃ A' c' vs, e = .returned (.slice A' (List.length vs) c') ∧ QInv w0 w' br A c L k true ∧ w.grownBy w' (some br) ∧ LD w w' A' vs
def LM (w0 w : World) (br : Nat) (A : Option Addr) (c : Nat) (L : List PT) (res : Except Nat (List T1 × Nat)) (G : List T1 → Nat → Prop) (lv : Value) (wr : World) : Prop :=
 (∃ (acc : List T1) (vs : List Value) (j : Nat), j ≤ L.length ∧ acc.length ≤ j ∧ QG w0 w wr br A c L j false ∧ MB w wr lv acc vs ∧ G acc j) ∨
 (∃ (vs : List Value) (k : Nat), k ≤ 80000 ∧ vs.length ≤ 20002 ∧ QG w0 w wr br A c L k true ∧ MO w wr lv vs ∧ res = .error k)
theorem LM.good {res : Except Nat (List T1 × Nat)} {G : List T1 → Nat → Prop} {j : Nat} (hj : j ≤ L.length) (ha : acc.length ≤ j) (h : QG w0 w wr br A c L j false) (hb : MB w wr lv acc vs) (hG : G acc j) : LM w0 w br A c L res G lv wr := .inl ⟨acc, vs, j, hj, ha, h, hb, hG⟩
theorem LM.hung {res : Except Nat (List T1 × Nat)} {G : List T1 → Nat → Prop} {k : Nat} (h : QG w0 w wr br A c L k true) (hb : MO w wr lv vs) (hv : vs.length ≤ 20002) (hr : res = .error k) (hk : k ≤ 80000) : LM w0 w br A c L res G lv wr := .inr ⟨vs, k, hk, hv, h, hb, hr⟩
theorem many_same {sp : Nat → Except Nat (T1 × Nat)} (hm : SpOK L sp) : ∀ (f f' : Nat) (acc : List T1) (i : Nat), L.length < i + f → L.length < i + f' → manyR L sp f acc i = manyR L sp f' acc i := by
 intro f
 induction f with
 | zero =>
   intro f' acc i h h'
   cases f' with
   | zero => rfl
   | succ f' => rw [manyR_succ, if_neg (fun hT => by have := isT_lt hT; omega)]; rfl
 | succ f ih =>
   intro f' acc i h h'
   cases f' with
   | zero => rw [manyR_succ, if_neg (fun hT => by have := isT_lt hT; omega)]; rfl
   | succ f' =>
     rw [manyR_succ, manyR_succ]
     by_cases hT : isT L i sCom = true
     ·rw [if_pos hT, if_pos hT]
      cases hy : sp (i + 1) with
      | error k => rfl
      | ok r =>
        obtain ⟨y, j⟩ := r
        have := hm _ _ _ hy
        exact ih f' _ _ (by omega) (by omega)
     ·rw [if_neg hT, if_neg hT]
end
set_option maxRecDepth 100000 in set_option maxHeartbeats 6400000 in
theorem rargs_any {ex : Nat → Except Nat (T1 × Nat)} {e : Par T1} (he : Good e) {lo : Nat} {w0 : World} {br c : Nat} {A : Option Addr} {L : List PT} (ht : Toks w0 br A L) (ok : OKRow L) (hx : ∀ j, ex j = e L j) (hE : RnOK 63 ex lo w0 br A c L) (hm : SpOK L ex) (i : Nat) (hlo : lo ≤ i) (hi : i ≤ 60000) (w : World) (h : QInv w0 w br A c L i false) (hP : isT L i sPar = true) :
 Calls Try.prog 69 #[.pointer (some ⟨br, 0, none⟩)] w (RListR w0 w br A c L (betweenP L ex sRap (i + 1))) := by
 have hbr0 := h.row.lt
 have hlen := ht.len
 have hil := isT_lt hP
 have H0 := qh h
 have H := qh (QG.start h)
 have HE := qh hE
 have HM := qh hm
 have HT := qh ht
 have HOK := qh ok
 have HME := qh (err_bd he hx hlen)
 have HMS := qh (many_same hm)
 have ND := qh (rneedT_yes ht (by omega) sPar _ ok (by decide) h hP)
 have HS0 := qh (show betweenP L ex sRap (i + 1) = if isT L (i + 1) sRap = true then .ok ([], i + 1 + 1) else match ex (i + 1) with
  | .error k => .error k
  | .ok (x, j) => match manyR L ex (L.length + 1) [x] j with
    | .error k => .error k
    | .ok (l, j) => match need L j sRap with
      | .error k => .error k
      | .ok j2 => .ok (l, j2) by unfold betweenP manyP; cases ex (i + 1) <;> rfl)
 generalize betweenP L ex sRap (i + 1) = res at *
 obtain ⟨i0, hi0, hz0, hz1, hz2⟩ := info_parts infoN
 clear hE h ht hm ok hx he hP
 have HB := qh (MB.nil w w)
 go_enter Try.func69, Try.ntmps69
 go_wp2_with fail
 ((with_reducible refine (ND.out).mono ?_); rintro e v1 ⟨rfl, hb⟩)
 have H := qh (H.out.trans hb)
 have HB := qh (HB.out.grown hb.2 hbr0)
 clear hb
 cases hK : isT L (i + 1) sRap with
 | true =>
   have EY := qh (reatT_yes HT.out (by omega) sRap _ HOK.out (by decide) H.out.1 hK)
   have HS := qh (HS0.out.trans (if_pos hK))
   clear HS0
   go_wp2_with fail
   ((with_reducible refine (EY.out).mono ?_); rintro e v1 ⟨rfl, hb⟩)
   have H := qh (H.out.trans hb)
   have HB := qh (HB.out.grown hb.2 hbr0)
   clear hb
   go_wp2
   go_ret
   rw [HS.out]
   exact ⟨none, 0, [], rfl, H.out.1, H.out.2, ⟨Reads.none_, (fun v hv => by cases hv), by simp, (fun ad e => by cases e)⟩, (by unfold forest; unfold RepS; rfl), rfl⟩
 | false =>
   have EN := qh (reatT_no HT.out (by omega) sRap _ HOK.out (by decide) H.out.1 hK)
   have HS1 := qh (HS0.out.trans (if_neg (by rw [hK]; simp)))
   clear HS0
   go_wp2_with fail
   ((with_reducible refine (EN.out).mono ?_); rintro e v1 ⟨rfl, hb⟩)
   have H := qh (H.out.trans hb)
   have HB := qh (HB.out.grown hb.2 hbr0)
   clear hb
   generalize (Value.slice none 0 0) = mv0 at *
   have d1 := HE.out (i + 1) (by omega) (by omega) v1 H.out.1
   cases hy : ex (i + 1) with
   | error k =>
     rw [hy] at d1
     have HS := qh (show res = .error k by rw [HS1.out, hy])
     have D1 := qh d1
     have hk8 := HME.out _ _ (by omega) hy
     clear d1 hy HS1
     go_wp2_with fail
     ((with_reducible refine (D1.out).mono ?_); rintro e v2 ⟨p9, rfl, hp, hg⟩)
     have HB := qh (HB.out.grown hg hbr0)
     have H := qh (H.out.trans ⟨hp, hg⟩)
     clear hp hg
     have hvl : ([] : List Value).length = 0 := rfl
     have Q : Hid ((∀ i v, [Value.pointer p9][i]? = some v → (v2.alloc (.cells #[.pointer p9] 26)).cell? ((⟨v2.heap.size, 0, none⟩ : Addr).add i) = some v) ∧ (∀ v ∈ [Value.pointer p9], v.oneCell' = true) ∧ ([] : List Value).length + 1 ≤ maxLen ∧ w.heap.size ≤ (v2.alloc (.cells #[.pointer p9] 26)).heap.size ∧ (v2.alloc (.cells #[.pointer p9] 26)).ownsRow w.heap.size 26 1 mv0 ([] : List Value).length ([] : List Value)) :=
      qh ⟨World.news_of_block (cs := #[.pointer p9]) (heap_alloc_new v2 _), fun v hv => by simp only [List.mem_singleton] at hv; subst hv; rfl, by (try simp only [List.length_nil]); unfold maxLen; omega, by have := H.out.2.size; rw [World.size_alloc]; omega, HB.out.own.alloc _⟩
     go_wp2_with (at_builtin; refine wpList_append_lies _ rfl _ _ _ rfl w.heap.size 26 i0 _ 1 8 Try.underlying40 hi0 hz0 hz1 hz2 rfl (by omega) mv0 ([] : List Value).length ([] : List Value) rfl Q.out.2.2.2.2 ⟨v2.heap.size, 0, none⟩ 1 1 [.pointer p9] rfl rfl Q.out.1 Q.out.2.1 (by omega) Q.out.2.2.1 (by omega) Q.out.2.2.2.1 (v2.heap.size + 1) (by rw [World.size_alloc]) ?_; intro g' cap w5 hown1 hgrow hor hlt5; have HB2 := qh (MO.appended HB.out.mo hown1); have H2 := qh (QG.appended H.out H0.out hgrow (fun k e => (HB.out.own.lt _ e).1)); clear hown1 hgrow hor hlt5)
     go_wp2_with fail
     go_loopw [3] (fun lv wr => Hid (∃ vs : List Value, vs.length ≤ 20002 ∧ QG w0 w wr br A c L k true ∧ MO w wr lv vs)) (fun _ _ => 0)
     case atStart => exact qh ⟨_, (by simp), H2.out, HB2.out⟩
     case round =>
      clear H H2 HB HB2
      obtain ⟨vs, hvs, hG, hB⟩ := hrel.out
      have H := qh hG
      have HB := qh hB
      clear hrel hG hB
      have EB := qh (reat_bad HT.out (by omega) sCom _ H.out.1)
      go_wp2_with fail
      ((with_reducible refine (EB.out).mono ?_); rintro e v1 ⟨rfl, hb⟩)
      have H := qh (H.out.trans hb)
      have HB := qh (HB.out.grown hb.2 hbr0)
      clear hb
      have NB := qh (rneed_bad HT.out (by omega) sRap _ H.out.1)
      go_wp2_with fail
      ((with_reducible refine (NB.out).mono ?_); rintro e v1 ⟨rfl, hb⟩)
      have H := qh (H.out.trans hb)
      have HB := qh (HB.out.grown hb.2 hbr0)
      clear hb
      go_wp2
      go_ret
      rw [HS.out]
      obtain ⟨A', c', rfl, hR⟩ := own_form HB.out.own
      exact ⟨A', c', _, rfl, H.out.1, H.out.2, ⟨hR, HB.out.one, by omega, own_loc HB.out.own⟩⟩
   | ok r =>
     obtain ⟨x, j⟩ := r
     rw [hy] at d1
     have hj := HM.out _ _ _ hy
     have HS := qh (show res = (match manyR L ex (L.length + 1) [x] j with
     | .error k => .error k
     | .ok (l, j) => match need L j sRap with
       | .error k => .error k
       | .ok j2 => .ok (l, j2)) by rw [HS1.out, hy])
     have D1 := qh d1
     clear d1 hy HS1
     go_wp2_with fail
     ((with_reducible refine (D1.out).mono ?_); rintro e v2 ⟨bx, rfl, hp, hg, hr⟩)
     have HBD := qh HB.out.bd
     have HB := qh (HB.out.grown hg hbr0)
     have HY := qh hr
     have hv1 := H.out.2.size
     have H := qh (H.out.trans ⟨hp, hg⟩)
     clear hp hg hr
     have hvl : ([] : List Value).length = 0 := rfl
     have Q : Hid ((∀ i v, [Value.pointer (some ⟨bx, 0, none⟩)][i]? = some v → (v2.alloc (.cells #[.pointer (some ⟨bx, 0, none⟩)] 26)).cell? ((⟨v2.heap.size, 0, none⟩ : Addr).add i) = some v) ∧ (∀ v ∈ [Value.pointer (some ⟨bx, 0, none⟩)], v.oneCell' = true) ∧ ([] : List Value).length + 1 ≤ maxLen ∧ w.heap.size ≤ (v2.alloc (.cells #[.pointer (some ⟨bx, 0, none⟩)] 26)).heap.size ∧ (v2.alloc (.cells #[.pointer (some ⟨bx, 0, none⟩)] 26)).ownsRow w.heap.size 26 1 mv0 ([] : List Value).length ([] : List Value)) :=
      qh ⟨World.news_of_block (cs := #[.pointer (some ⟨bx, 0, none⟩)]) (heap_alloc_new v2 _), fun v hv => by simp only [List.mem_singleton] at hv; subst hv; rfl, by (try simp only [List.length_nil]); unfold maxLen; omega, by have := H.out.2.size; rw [World.size_alloc]; omega, HB.out.own.alloc _⟩
     go_wp2_with (at_builtin; refine wpList_append_lies _ rfl _ _ _ rfl w.heap.size 26 i0 _ 1 8 Try.underlying40 hi0 hz0 hz1 hz2 rfl (by omega) mv0 ([] : List Value).length ([] : List Value) rfl Q.out.2.2.2.2 ⟨v2.heap.size, 0, none⟩ 1 1 [.pointer (some ⟨bx, 0, none⟩)] rfl rfl Q.out.1 Q.out.2.1 (by omega) Q.out.2.2.1 (by omega) Q.out.2.2.2.1 (v2.heap.size + 1) (by rw [World.size_alloc]) ?_; intro g' cap w5 hown1 hgrow hor hlt5; have HB2 := qh (MB.appended HB.out HY.out HBD.out hv1 hown1 hgrow hor); have H2 := qh (QG.appended H.out H0.out hgrow (fun k e => (HB.out.own.lt _ e).1)); clear hown1 hgrow hor hlt5)
     go_wp2_with fail
     go_loopw [3] (fun lv wr => ∃ mv : Value, mv = lv ∧ Hid (LM w0 w br A c L res (fun acc j => i < j ∧ res = (match manyR L ex (L.length + 1) acc j with | .error k => .error k | .ok (l, j) => match need L j sRap with | .error k => .error k | .ok j2 => .ok (l, j2))) mv wr)) (fun _ wr => loopM L.length wr br)
     case atStart => exact ⟨_, rfl, qh (LM.good (by omega) (by simp only [List.nil_append, List.length_singleton]; omega) H2.out HB2.out ⟨by omega, HS.out⟩)⟩
     case round =>
      clear H H2 HB HB2 HS
      obtain ⟨mv, rfl, hrel⟩ := hrel
      rcases hrel.out with ⟨acc, vs, j, hj, hac, hG, hB, hij, hS⟩ | ⟨vs, k, hk8, hvs, hG, hB, hS⟩
      case' inr =>
       have H := qh hG
       have HS := qh hS
       have HB := qh hB
       clear hrel hG hS hB
       have EB := qh (reat_bad HT.out (by omega) sCom _ H.out.1)
       go_wp2_with fail
       ((with_reducible refine (EB.out).mono ?_); rintro e v1 ⟨rfl, hb⟩)
       have H := qh (H.out.trans hb)
       have HB := qh (HB.out.grown hb.2 hbr0)
       clear hb
       have NB := qh (rneed_bad HT.out (by omega) sRap _ H.out.1)
       go_wp2_with fail
       ((with_reducible refine (NB.out).mono ?_); rintro e v1 ⟨rfl, hb⟩)
       have H := qh (H.out.trans hb)
       have HB := qh (HB.out.grown hb.2 hbr0)
       clear hb
       go_wp2
       go_ret
       rw [HS.out]
       obtain ⟨A', c', rfl, hR⟩ := own_form HB.out.own
       exact ⟨A', c', _, rfl, H.out.1, H.out.2, ⟨hR, HB.out.one, by omega, own_loc HB.out.own⟩⟩
      obtain ⟨wo, rfl⟩ : ∃ wo : World, wo = wr := ⟨_, rfl⟩
      have H := qh hG
      have HO := qh hG
      have HB := qh hB
      have HS1 := qh (show res = _ from hS.trans (by rw [manyR_succ]))
      clear hrel hG hS hB
      cases hC : isT L j sCom with
      | false =>
        have EN := qh (reatT_no HT.out (by omega) sCom _ HOK.out (by decide) H.out.1 hC)
        have HS2 := qh (show res = (match need L j sRap with | .error k => .error k | .ok j2 => .ok (acc, j2)) by rw [HS1.out, if_neg (by rw [hC]; simp)])
        clear HS1
        go_wp2_with fail
        ((with_reducible refine (EN.out).mono ?_); rintro e v1 ⟨rfl, hb⟩)
        have H := qh (H.out.trans hb)
        have HB := qh (HB.out.grown hb.2 hbr0)
        clear hb
        cases hK : isT L j sRap with
        | false =>
          have ND := qh (rneedT_no HT.out (by omega) sRap _ HOK.out (by decide) H.out.1 hK)
          have HS := qh (show res = .error j by rw [HS2.out]; unfold need; rw [if_neg (by rw [hK]; simp)])
          clear HS2
          have hvs := HB.out.len
          have HB := qh HB.out.mo
          go_wp2_with fail
          ((with_reducible refine (ND.out).mono ?_); rintro e v1 ⟨rfl, hb⟩)
          have H := qh (H.out.trans hb)
          have HB := qh (HB.out.grown hb.2 hbr0)
          clear hb
          go_wp2
          go_ret
          rw [HS.out]
          obtain ⟨A', c', rfl, hR⟩ := own_form HB.out.own
          exact ⟨A', c', _, rfl, H.out.1, H.out.2, ⟨hR, HB.out.one, by omega, own_loc HB.out.own⟩⟩
        | true =>
          have ND := qh (rneedT_yes HT.out (by omega) sRap _ HOK.out (by decide) H.out.1 hK)
          have HS := qh (show res = .ok (acc, j + 1) by rw [HS2.out]; unfold need; rw [if_pos hK])
          clear HS2
          go_wp2_with fail
          ((with_reducible refine (ND.out).mono ?_); rintro e v1 ⟨rfl, hb⟩)
          have H := qh (H.out.trans hb)
          have HB := qh (HB.out.grown hb.2 hbr0)
          clear hb
          go_wp2
          go_ret
          rw [HS.out]
          obtain ⟨A', c', rfl, hR⟩ := own_form HB.out.own
          exact ⟨A', c', _, rfl, H.out.1, H.out.2, ⟨hR, HB.out.one, by have := HB.out.len; omega, own_loc HB.out.own⟩, HB.out.rep.more fun x hx _ => hx.1, HB.out.len⟩
      | true =>
        have hjlt := isT_lt hC
        have EY := qh (reatT_yes HT.out (by omega) sCom _ HOK.out (by decide) H.out.1 hC)
        have HS2 := qh (HS1.out.trans (by rw [if_pos hC]))
        clear HS1
        go_wp2_with fail
        ((with_reducible refine (EY.out).mono ?_); rintro e v1 ⟨rfl, hb⟩)
        have H := qh (H.out.trans hb)
        have HB := qh (HB.out.grown hb.2 hbr0)
        clear hb
        have d3 := HE.out (j + 1) (by omega) (by omega) v1 H.out.1
        cases hy : ex (j + 1) with
        | error k =>
          rw [hy] at d3
          have HS := qh (show res = .error k by rw [HS2.out, hy])
          have D3 := qh d3
          have hk8 := HME.out _ _ (by omega) hy
          clear d3 hy HS2
          go_wp2_with fail
          ((with_reducible refine (D3.out).mono ?_); rintro e v2 ⟨p9, rfl, hp, hg⟩)
          have HB := qh (HB.out.grown hg hbr0)
          have H := qh (H.out.trans ⟨hp, hg⟩)
          clear hp hg
          have hvl := Nat.le_of_eq HB.out.len
          have Q : Hid ((∀ i v, [Value.pointer p9][i]? = some v → (v2.alloc (.cells #[.pointer p9] 26)).cell? ((⟨v2.heap.size, 0, none⟩ : Addr).add i) = some v) ∧ (∀ v ∈ [Value.pointer p9], v.oneCell' = true) ∧ vs.length + 1 ≤ maxLen ∧ w.heap.size ≤ (v2.alloc (.cells #[.pointer p9] 26)).heap.size ∧ (v2.alloc (.cells #[.pointer p9] 26)).ownsRow w.heap.size 26 1 mv vs.length vs) :=
           qh ⟨World.news_of_block (cs := #[.pointer p9]) (heap_alloc_new v2 _), fun v hv => by simp only [List.mem_singleton] at hv; subst hv; rfl, by (try simp only [List.length_nil]); unfold maxLen; omega, by have := H.out.2.size; rw [World.size_alloc]; omega, HB.out.own.alloc _⟩
          go_wp2_with (at_builtin; refine wpList_append_lies _ rfl _ _ _ rfl w.heap.size 26 i0 _ 1 8 Try.underlying40 hi0 hz0 hz1 hz2 rfl (by omega) mv vs.length vs rfl Q.out.2.2.2.2 ⟨v2.heap.size, 0, none⟩ 1 1 [.pointer p9] rfl rfl Q.out.1 Q.out.2.1 (by omega) Q.out.2.2.1 (by omega) Q.out.2.2.2.1 (v2.heap.size + 1) (by rw [World.size_alloc]) ?_; intro g' cap w5 hown1 hgrow hor hlt5; have HB2 := qh (MO.appended HB.out.mo hown1); have H2 := qh (QG.appended H.out H0.out hgrow (fun k e => (HB.out.own.lt _ e).1)); clear hown1 hgrow hor hlt5)
          have HM0 := qh (loopM_bad (w := w) H2.out HO.out hj)
          go_wp2
          go_roundw
          case rel => exact ⟨_, rfl, qh (LM.hung H2.out HB2.out (by rw [List.length_append]; simp only [List.length_singleton]; omega) HS.out (by omega))⟩
          case measure => exact HM0.out
        | ok r =>
          obtain ⟨y, j4⟩ := r
          rw [hy] at d3
          have hj4 := HM.out _ _ _ hy
          have HS7 := qh (show res = (match manyR L ex (L.length + 1) (acc ++ [y]) j4 with | .error k => .error k | .ok (l, j) => match need L j sRap with | .error k => .error k | .ok j2 => .ok (l, j2)) by rw [HS2.out, hy]; dsimp only; rw [HMS.out L.length (L.length + 1) _ _ (by omega) (by omega)])
          have D3 := qh d3
          clear d3 hy HS2
          go_wp2_with fail
          ((with_reducible refine (D3.out).mono ?_); rintro e v2 ⟨by_, rfl, hp, hg, hr⟩)
          have HBD := qh HB.out.bd
          have HB := qh (HB.out.grown hg hbr0)
          have HY := qh hr
          have hv1 := H.out.2.size
          have H := qh (H.out.trans ⟨hp, hg⟩)
          clear hp hg hr
          have hvl := Nat.le_of_eq HB.out.len
          have Q : Hid ((∀ i v, [Value.pointer (some ⟨by_, 0, none⟩)][i]? = some v → (v2.alloc (.cells #[.pointer (some ⟨by_, 0, none⟩)] 26)).cell? ((⟨v2.heap.size, 0, none⟩ : Addr).add i) = some v) ∧ (∀ v ∈ [Value.pointer (some ⟨by_, 0, none⟩)], v.oneCell' = true) ∧ vs.length + 1 ≤ maxLen ∧ w.heap.size ≤ (v2.alloc (.cells #[.pointer (some ⟨by_, 0, none⟩)] 26)).heap.size ∧ (v2.alloc (.cells #[.pointer (some ⟨by_, 0, none⟩)] 26)).ownsRow w.heap.size 26 1 mv vs.length vs) :=
           qh ⟨World.news_of_block (cs := #[.pointer (some ⟨by_, 0, none⟩)]) (heap_alloc_new v2 _), fun v hv => by simp only [List.mem_singleton] at hv; subst hv; rfl, by (try simp only [List.length_nil]); unfold maxLen; omega, by have := H.out.2.size; rw [World.size_alloc]; omega, HB.out.own.alloc _⟩
          go_wp2_with (at_builtin; refine wpList_append_lies _ rfl _ _ _ rfl w.heap.size 26 i0 _ 1 8 Try.underlying40 hi0 hz0 hz1 hz2 rfl (by omega) mv vs.length vs rfl Q.out.2.2.2.2 ⟨v2.heap.size, 0, none⟩ 1 1 [.pointer (some ⟨by_, 0, none⟩)] rfl rfl Q.out.1 Q.out.2.1 (by omega) Q.out.2.2.1 (by omega) Q.out.2.2.2.1 (v2.heap.size + 1) (by rw [World.size_alloc]) ?_; intro g' cap w5 hown1 hgrow hor hlt5; have HB2 := qh (MB.appended HB.out HY.out HBD.out hv1 hown1 hgrow hor); have H2 := qh (QG.appended H.out H0.out hgrow (fun k e => (HB.out.own.lt _ e).1)); clear hown1 hgrow hor hlt5)
          have HM0 := qh (loopM_good (w := w) H2.out HO.out hj (by omega))
          go_wp2
          go_roundw
          case rel => exact ⟨_, rfl, qh (LM.good (by omega) (by rw [List.length_append]; simp only [List.length_singleton]; omega) H2.out HB2.out ⟨by omega, HS7.out⟩)⟩
          case measure => exact HM0.out
end Go.Proofs.Ytecmjhohniipoaa.Ex
namespace Go.Proofs.Ytecmjhohniipoaa.Ex
open Go.RowKit
open Tr (Nd Fo RepS RepN Rep cellsN)
open Lx (Tk noTk Blk run_store_complexL TokAt)
open Fl
attribute [local go_sem] run_store_complexL run_field1 run_field3
structure KN (B : Nat) (w : World) (b : Nat) (d : Nd) (sv : Value) (xs : List Value) : Prop where
 blk : Tr.Blk w b 42 (cellsN d sv)
 own : w.ownsRow B 26 1 sv xs.length xs
 low : B ≤ b
section
variable {B B0 br b : Nat} {w w1 W : World} {d : Nd} {sv v : Value} {xs : List Value} {acc : List T1}
theorem NB.kn (h : NB w W b d sv xs) : KN w.heap.size W b d sv xs := ⟨h.blk, h.own, h.low⟩
theorem KN.grown (h : KN B w b d sv xs) (hg : w.grownBy w1 (some br)) (hbr : br < B) : KN B w1 b d sv xs :=
 ⟨h.blk.grown hg (fun e => by injection e with e; have := h.low; omega), h.own.kept hg (.inr fun e => by have := (h.own.lt _ e).1; omega), h.low⟩
theorem KN.below (h : KN B w b d sv xs) (hb : Below w.heap.size w w1) : KN B w1 b d sv xs :=
 ⟨h.blk.below hb h.blk.lt, h.own.kept (grown_of_below hb none) (by rcases h : sv.ownBlock with _ | g; exact .inl rfl; exact .inr (by simp)), h.low⟩
theorem KN.facts (h : KN B w b d sv xs) : w.cell? ⟨b, 4, none⟩ = some sv ∧ w.frozen? ⟨b, 4, none⟩ = false ∧ b < w.heap.size := ⟨h.blk.cell 4, h.blk.frozen 4, h.blk.lt⟩
theorem KN.step {g cap : Nat} (h : KN B W b d sv xs)
 (hown : w1.ownsRow B 26 1 (.slice (some ⟨g, 0, none⟩) (xs.length + 1) cap) (xs.length + 1) (xs ++ [v])) (hg : W.grownBy w1 sv.ownBlock) :
 KN B (w1.setCell ⟨b, 4, none⟩ (.slice (some ⟨g, 0, none⟩) (xs.length + 1) cap)) b d (.slice (some ⟨g, 0, none⟩) (xs.length + 1) cap) (xs ++ [v]) := by
 obtain ⟨h1, h2, h4⟩ := h
 have hne : sv.ownBlock ≠ some b := Tr.own_blk_ne h2 h1 (by decide)
 have hb1 : Tr.Blk w1 b 42 (cellsN d sv) := h1.grown hg (fun e => hne e.symm)
 have hgb : g ≠ b := by
  have := Tr.own_blk_ne hown hb1 (by decide)
  intro e; subst e; exact this rfl
 refine ⟨?_, ?_, h4⟩
 ·have := hb1.set_ 4 (.slice (some ⟨g, 0, none⟩) (xs.length + 1) cap)
  rwa [Tr.cellsN_set] at this
 ·rw [List.length_append, List.length_singleton]
  exact hown.kept (Tr.setCell_grown _ _ _) (.inr (by show some g ≠ some b; simpa using hgb))
structure KG (B0 B : Nat) (w : World) (b : Nat) (d : Nd) (sv : Value) (acc : List T1) (xs : List Value) : Prop where
 kn : KN B w b d sv xs
 rep : RepS (fun y => B0 ≤ y ∧ y ≠ b ∧ sv.ownBlock ≠ some y) w (forest acc) xs
 len : xs.length = acc.length
theorem KG.grown (h : KG B0 B w b d sv acc xs) (hg : w.grownBy w1 (some br)) (hbr : br < B0) (hB : B0 ≤ B) : KG B0 B w1 b d sv acc xs :=
 ⟨h.kn.grown hg (by omega), h.rep.keep hg.size (fun x hx hl => hg.block x hl (fun e => by injection e with e; have := hx.1; omega)) (fun x hx _ => hx), h.len⟩
theorem KG.below (h : KG B0 B w b d sv acc xs) (hb : Below w.heap.size w w1) : KG B0 B w1 b d sv acc xs := ⟨h.kn.below hb, h.rep.below hb, h.len⟩
theorem KG.step {g cap : Nat} {x : T1} (h : KG B0 B W b d sv acc xs) (hx : RepS (fun y => B0 ≤ y ∧ y ≠ b ∧ sv.ownBlock ≠ some y) W (.node x.1 x.2 .no) [v])
 (hown : w1.ownsRow B 26 1 (.slice (some ⟨g, 0, none⟩) (xs.length + 1) cap) (xs.length + 1) (xs ++ [v])) (hg : W.grownBy w1 sv.ownBlock) (hor : sv.ownBlock = some g ∨ g = W.heap.size) :
 KG B0 B (w1.setCell ⟨b, 4, none⟩ (.slice (some ⟨g, 0, none⟩) (xs.length + 1) cap)) b d (.slice (some ⟨g, 0, none⟩) (xs.length + 1) cap) (acc ++ [x]) (xs ++ [v]) := by
 refine ⟨h.kn.step hown hg, ?_, by rw [List.length_append, List.length_append, h.len]; rfl⟩
 have hS : ∀ y, (B0 ≤ y ∧ y ≠ b ∧ sv.ownBlock ≠ some y) → y < W.heap.size → (B0 ≤ y ∧ y ≠ b ∧ (Value.slice (some ⟨g, 0, none⟩) (xs.length + 1) cap).ownBlock ≠ some y) := by
  intro y hy hl
  obtain ⟨x1, x2, x3⟩ := hy
  refine ⟨x1, x2, ?_⟩
  show some g ≠ some y
  intro e
  injection e with e
  subst e
  rcases hor with hor | hor
  ·exact x3 hor
  ·omega
 have hkeep : ∀ y, (B0 ≤ y ∧ y ≠ b ∧ sv.ownBlock ≠ some y) → y < W.heap.size → (w1.setCell ⟨b, 4, none⟩ (.slice (some ⟨g, 0, none⟩) (xs.length + 1) cap)).heap[y]? = W.heap[y]? := by
  intro y hy hl
  obtain ⟨x1, x2, x3⟩ := hy
  rw [Below.heap_setCell w1 ⟨b, 4, none⟩ _ y x2]
  exact hg.block y hl (fun e => x3 e.symm)
 rw [forest_snoc]
 exact RepS.snoc (hx.keep (by simp; exact hg.size) hkeep hS) (h.rep.keep (by simp; exact hg.size) hkeep hS)
theorem KG.done (h : KG B0 B w b d sv acc xs) (hB : B0 ≤ B) : RepS (fun y => B0 ≤ y) w (.node d (forest acc) .no) [.pointer (some ⟨b, 0, none⟩)] :=
 RepS.mk h.kn.blk h.kn.own (h.rep.more fun x hx _ => hx.1) (Nat.le_trans hB h.kn.low) (fun g hg => Nat.le_trans hB (h.kn.own.lt g hg).1)
end
end Go.Proofs.Ytecmjhohniipoaa.Ex
end
