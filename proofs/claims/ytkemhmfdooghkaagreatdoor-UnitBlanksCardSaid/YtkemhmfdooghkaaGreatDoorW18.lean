/- A part of the proof: E7. -/
import Derived.Test.YtkemhmfdooghkaaGreatDoorW1
import Derived.Test.YtkemhmfdooghkaaGreatDoorW17
set_option linter.unusedSimpArgs false
set_option linter.unusedVariables false
set_option maxRecDepth 100000
set_option maxHeartbeats 6400000
namespace Go.Proofs.YtkemhmfdooghkaaGreatDoor.Ex
open Go.RowKit
open Tr (Nd Fo RepS RepN)
open Lx (Tk noTk Blk run_store_complexL TokAt)
open Fl
attribute [local go_sem] run_store_complexL run_field1 run_field3
def FnOK (F : Nat) (sp : Nat → Except Nat (T1 × Nat)) (lo : Nat) (w0 : World) (br : Nat) (A : Option Addr) (c : Nat) (L : List PT) : Prop :=
 ∀ j, lo ≤ j → j ≤ 60000 → ∀ w, PInv w0 w br A c L j → Calls Tryz.prog F #[.pointer (some ⟨br, 0, none⟩)] w (TreeR w.heap.size w0 w br A c L (sp j))
def SpOK (L : List PT) (sp : Nat → Except Nat (T1 × Nat)) : Prop := ∀ j y j', sp j = .ok (y, j') → j < j' ∧ j' ≤ L.length
theorem elemP_ok {L : List PT} {ex : Nat → Except Nat (T1 × Nat)} (h : SpOK L ex) : SpOK L (elemP L ex) := by
 intro j y j' e
 unfold elemP at e
 split at e
 ·cases e
 ·rename_i x j1 h1
  have g1 := h _ _ _ h1
  split at e
  ·split at e
   ·cases e
   ·rename_i y2 j2 h2
    have g2 := h _ _ _ h2
    injection e with e; injection e with e1 e2
    omega
  ·injection e with e; injection e with e1 e2
   omega
theorem kids2 {B : Nat} {w : World} {x y : T1} {bx by_ : Nat} (hx : RepS (fun z => B ≤ z) w (.node x.1 x.2 .no) [.pointer (some ⟨bx, 0, none⟩)]) (hy : RepS (fun z => B ≤ z) w (.node y.1 y.2 .no) [.pointer (some ⟨by_, 0, none⟩)]) (o : Obj) :
 RepN (fun z => B ≤ z) (w.alloc o) (.node x.1 x.2 (.node y.1 y.2 .no)) [.pointer (some ⟨bx, 0, none⟩), .pointer (some ⟨by_, 0, none⟩)] :=
 repN_of ((repS_cons hx hy).below ((Below.refl _ _).alloc (Nat.le_refl _) _))
theorem kids1 {B : Nat} {w : World} {x : T1} {bx : Nat} (hx : RepS (fun z => B ≤ z) w (.node x.1 x.2 .no) [.pointer (some ⟨bx, 0, none⟩)]) (o : Obj) :
 RepN (fun z => B ≤ z) (w.alloc o) (.node x.1 x.2 .no) [.pointer (some ⟨bx, 0, none⟩)] :=
 repN_of (hx.below ((Below.refl _ _).alloc (Nat.le_refl _) _))
theorem elem_any {ex : Nat → Except Nat (T1 × Nat)} {lo : Nat} {w0 : World} {br c : Nat} {A : Option Addr} {L : List PT} (ht : Toks w0 br A L) (hE : FnOK 120 ex lo w0 br A c L) (hm : SpOK L ex) :
 FnOK 157 (elemP L ex) lo w0 br A c L := by
 intro i hlo hi w h
 have hbr0 := h.row.lt
 have hlen := ht.len
 have H := qh (PG.start h)
 obtain ⟨k, p1, p2, q1, q2, t, n, e1, e2⟩ := val_form (tk L i)
 have hp : pos L i = (p1, p2) := by unfold pos; rw [e1]
 have n1 := now_any ht (by omega) w h
 rw [e2] at n1
 have N1 := qh n1
 have HE := qh hE
 have HS0 := qh (show elemP L ex i = (match ex i with
  | .error k => .error k
  | .ok (x, j) => if isT L j sRan = true then (match ex (j + 1) with
    | .error k => .error k
    | .ok (y, j2) => .ok (mk 9 (p1, p2) sNil 0 [x, y], j2)) else .ok (x, j)) by rw [← hp]; rfl)
 have HT := qh ht
 clear n1 hE e1 e2 h hp ht
 generalize elemP L ex i = res at *
 go_enter Tryz.func157, Tryz.ntmps157
 go_wp2_with fail
 ((with_reducible refine (N1.out).mono ?_); rintro e w1 ⟨rfl, hb⟩)
 have H := qh (H.out.below hb)
 clear hb
 have d1 := HE.out i hlo hi w1 H.out.1
 cases hx : ex i with
 | error k =>
   rw [hx] at d1
   have HS := qh (show res = .error k by rw [HS0.out, hx])
   have D1 := qh d1
   clear d1 hx HS0
   go_wp2_with fail
   ((with_reducible refine (D1.out).mono ?_); rintro e w1 ⟨rfl, hb⟩)
   have H3 := qh (grown_trans H.out.2 hb)
   clear hb
   go_wp2
   refine ⟨rfl, ?_⟩
   rw [HS.out]
   exact ⟨rfl, H3.out⟩
 | ok r =>
   obtain ⟨x, j⟩ := r
   rw [hx] at d1
   have hj := hm _ _ _ hx
   have D1 := qh d1
   clear d1
   go_wp2_with fail
   ((with_reducible refine D1.out.mono ?_); rintro e w2 ⟨bx, rfl, hp, hg, hr⟩)
   have HX := qh (hr.more (S' := fun y => w.heap.size ≤ y) fun y hy _ => Nat.le_trans H.out.2.size hy)
   have H2 := qh (H.out.trans ⟨hp, hg⟩)
   clear hp hg hr H
   cases hT : isT L j sRan with
   | false =>
     have EN := qh (eat_no HT.out (by omega) sRan _ H2.out.1 hT)
     have HS := qh (show res = .ok (x, j) by rw [HS0.out, hx]; dsimp only; rw [if_neg (by rw [hT]; simp)])
     clear hx HS0
     go_wp2_with fail
     ((with_reducible refine EN.out.mono ?_); rintro e w3 ⟨rfl, hb⟩)
     have H := qh (H2.out.trans hb)
     have HX := qh (repS_grown HX.out hb.2 hbr0)
     clear hb
     go_wp2
     go_ret
     rw [HS.out]
     exact ⟨bx, rfl, H.out.1, H.out.2, HX.out⟩
   | true =>
     have EY := qh (eat_yes HT.out (by omega) sRan _ H2.out.1 hT)
     have hjl := isT_lt hT
     have HS1 := qh (show res = (match ex (j + 1) with
      | .error k => .error k
      | .ok (y, j2) => .ok (mk 9 (p1, p2) sNil 0 [x, y], j2)) by rw [HS0.out, hx]; dsimp only; rw [if_pos hT])
     clear hx HS0
     go_wp2_with fail
     ((with_reducible refine EY.out.mono ?_); rintro e w3 ⟨rfl, hb⟩)
     have H := qh (H2.out.trans hb)
     have HX := qh (repS_grown HX.out hb.2 hbr0)
     clear hb H2
     have d2 := HE.out (j + 1) (by omega) (by omega) w3 H.out.1
     cases hy : ex (j + 1) with
     | error k =>
       rw [hy] at d2
       have HS := qh (show res = .error k by rw [HS1.out, hy])
       have D2 := qh d2
       clear d2 hy HS1
       go_wp2_with fail
       ((with_reducible refine (D2.out).mono ?_); rintro e w1 ⟨rfl, hb⟩)
       have H3 := qh (grown_trans H.out.2 hb)
       clear hb
       go_wp2
       refine ⟨rfl, ?_⟩
       rw [HS.out]
       exact ⟨rfl, H3.out⟩
     | ok r =>
       obtain ⟨y, j2⟩ := r
       rw [hy] at d2
       have HS := qh (show res = .ok (mk 9 (p1, p2) sNil 0 [x, y], j2) by rw [HS1.out, hy])
       have D2 := qh d2
       clear d2 hy HS1
       go_wp2_with fail
       ((with_reducible refine D2.out.mono ?_); rintro e w4 ⟨by_, rfl, hp, hg, hr⟩)
       have HY := qh (hr.more (S' := fun y => w.heap.size ≤ y) fun y hy _ => Nat.le_trans H.out.2.size hy)
       have HX := qh (repS_grown HX.out hg hbr0)
       have H := qh (H.out.trans ⟨hp, hg⟩)
       have NW := qh (new_at (B := w.heap.size) (w := w4.alloc (.cells #[.pointer (some ⟨bx, 0, none⟩), .pointer (some ⟨by_, 0, none⟩)] 31)) (by have := H.out.2.size; rw [World.size_alloc]; omega) 9 9 rfl p1 p2 sNil 0 (some ⟨w4.heap.size, 0, none⟩) 2 2 [.pointer (some ⟨bx, 0, none⟩), .pointer (some ⟨by_, 0, none⟩)] (.node x.1 x.2 (.node y.1 y.2 .no)) rfl (by omega) (reads_lit w4 #[.pointer (some ⟨bx, 0, none⟩), .pointer (some ⟨by_, 0, none⟩)] _) (kids2 HX.out HY.out _))
       clear hp hg hr
       go_wp2_with fail
       ((with_reducible refine NW.out.mono ?_); rintro e w5 ⟨b, rfl, hb, hr⟩)
       have H := qh ((H.out.alloc _).below hb)
       have HR := qh hr
       clear hb hr
       go_wp2
       go_ret
       rw [HS.out]
       exact ⟨b, rfl, H.out.1, H.out.2, HR.out⟩
theorem commasP_succ (L : List PT) (ex : Nat → Except Nat (T1 × Nat)) (f : Nat) (x : T1) (i : Nat) : commasP L ex (f + 1) x i = if isT L i sCom = true then (match ex (i + 1) with
 | .error k => .error k
 | .ok (y, j) => commasP L ex f (mk 3 (pos L i) sNil 0 [x, y]) j) else .ok (x, i) := rfl
theorem desP_succ (L : List PT) (ex : Nat → Except Nat (T1 × Nat)) (f : Nat) (x : T1) (i : Nat) : desP L ex (f + 1) x i =
 if isT L i sDot = true then (match dotP L x i with
  | .error k => .error k
  | .ok (y, j) => desP L ex f y j)
 else if isT L i sHat = true then desP L ex f (mk 4 (pos L i) sNil 0 [x]) (i + 1)
 else if isT L i sBra = true then (match ex (i + 1) with
  | .error k => .error k
  | .ok (y, j) => match commasP L ex (L.length + 1) (mk 3 (pos L i) sNil 0 [x, y]) j with
    | .error k => .error k
    | .ok (z, j2) => match need L j2 sKet with
      | .error k => .error k
      | .ok j3 => desP L ex f z j3)
 else .ok (x, i) := rfl
theorem name_lt {L : List PT} {i : Nat} (h : (tk L i).1.kind = 1) : i < L.length := by
 rcases Nat.lt_or_ge i L.length with h1 | h1
 ·exact h1
 ·unfold tk at h
  rw [List.getElem?_eq_none h1] at h
  simp [noPT, noTk] at h
theorem dotP_lt {L : List PT} {i j : Nat} {x y : T1} (h : dotP L x i = .ok (y, j)) : j = i + 2 ∧ j ≤ L.length := by
 have h0 := dotP_le h
 unfold dotP at h
 split at h
 ·cases h
 ·rename_i j1 h1
  split at h
  ·cases h
  ·rename_i t j2 h2
   have g1 := need_le h1
   have g2 := nameP_le h2
   have := name_lt g2.2.2
   omega
theorem dotsP_ok {L : List PT} : ∀ (f : Nat) (x : T1) (i : Nat) (y : T1) (j : Nat), dotsP L f x i = .ok (y, j) → i ≤ L.length → i ≤ j ∧ j ≤ L.length := by
 intro f
 induction f with
 | zero => intro x i y j h hi; injection h with h; injection h with h1 h2; omega
 | succ f ih =>
   intro x i y j h hi
   rw [dotsP_succ] at h
   split at h
   ·split at h
    ·cases h
    ·rename_i y1 j1 h1
     have g := dotP_lt h1
     have := ih _ _ _ _ h g.2
     omega
   ·injection h with h; injection h with h1 h2; omega
theorem qualP_ok {L : List PT} : SpOK L (qualP L) := by
 intro i y j h
 unfold qualP at h
 split at h
 ·cases h
 ·rename_i t j1 h1
  have g := nameP_le h1
  have := name_lt g.2.2
  have := dotsP_ok _ _ _ _ _ h (by omega)
  omega
section
variable {L : List PT} {ex : Nat → Except Nat (T1 × Nat)} (hm : SpOK L ex)
include hm
theorem commasP_ok : ∀ (f : Nat) (x : T1) (i : Nat) (y : T1) (j : Nat), commasP L ex f x i = .ok (y, j) → i ≤ L.length → i ≤ j ∧ j ≤ L.length := by
 intro f
 induction f with
 | zero => intro x i y j h hi; injection h with h; injection h with h1 h2; omega
 | succ f ih =>
   intro x i y j h hi
   rw [commasP_succ] at h
   split at h
   ·split at h
    ·cases h
    ·rename_i y1 j1 h1
     have g := hm _ _ _ h1
     have := ih _ _ _ _ h g.2
     omega
   ·injection h with h; injection h with h1 h2; omega
theorem desP_ok : ∀ (f : Nat) (x : T1) (i : Nat) (y : T1) (j : Nat), desP L ex f x i = .ok (y, j) → i ≤ L.length → i ≤ j ∧ j ≤ L.length := by
 intro f
 induction f with
 | zero => intro x i y j h hi; injection h with h; injection h with h1 h2; omega
 | succ f ih =>
   intro x i y j h hi
   rw [desP_succ] at h
   split at h
   ·split at h
    ·cases h
    ·rename_i y1 j1 h1
     have g := dotP_lt h1
     have := ih _ _ _ _ h g.2
     omega
   ·split at h
    ·rename_i hT
     have := isT_lt hT
     have := ih _ _ _ _ h (by omega)
     omega
    ·split at h
     ·split at h
      ·cases h
      ·rename_i y1 j1 h1
       have g := hm _ _ _ h1
       split at h
       ·cases h
       ·rename_i z j2 h2
        have g2 := commasP_ok hm _ _ _ _ _ h2 g.2
        split at h
        ·cases h
        ·rename_i j3 h3
         have g3 := need_le h3
         have := isT_lt g3.2
         have := ih _ _ _ _ h (by omega)
         omega
     ·injection h with h; injection h with h1 h2; omega
theorem designP_ok : SpOK L (designP L ex) := by
 intro i y j h
 unfold designP at h
 split at h
 ·cases h
 ·rename_i x j1 h1
  have g := qualP_ok _ _ _ h1
  have := desP_ok hm _ _ _ _ _ h g.2
  omega
end
theorem design_any {ex : Nat → Except Nat (T1 × Nat)} {lo : Nat} {w0 : World} {br c : Nat} {A : Option Addr} {L : List PT} (ht : Toks w0 br A L) (hE : FnOK 120 ex (lo + 1) w0 br A c L) (hm : SpOK L ex) :
 FnOK 158 (designP L ex) lo w0 br A c L := by
 intro i hlo hi w h
 have hbr0 := h.row.lt
 have hlen := ht.len
 have H := qh (PG.start h)
 have HE := qh hE
 have HM := qh hm
 have HT := qh ht
 have d1 := qual_any ht (by omega) w h
 have HS0 := qh (show designP L ex i = (match qualP L i with
  | .error k => .error k
  | .ok (x, j) => desP L ex (L.length + 1) x j) from rfl)
 clear hE h ht hm
 generalize designP L ex i = res at *
 go_enter Tryz.func158, Tryz.ntmps158
 cases hx : qualP L i with
 | error k =>
   rw [hx] at d1
   have HS := qh (show res = .error k by rw [HS0.out, hx])
   have D1 := qh d1
   clear d1 hx HS0
   go_wp2_with fail
   ((with_reducible refine (D1.out).mono ?_); rintro e w1 ⟨rfl, hb⟩)
   have H3 := qh (grown_trans H.out.2 hb)
   clear hb
   go_wp2
   refine ⟨rfl, ?_⟩
   rw [HS.out]
   exact ⟨rfl, H3.out⟩
 | ok r =>
   obtain ⟨x, j⟩ := r
   rw [hx] at d1
   have hj := qualP_ok _ _ _ hx
   have HS := qh (show res = desP L ex (L.length + 1) x j by rw [HS0.out, hx])
   have D1 := qh d1
   clear d1 hx HS0
   go_wp2_with fail
   ((with_reducible refine D1.out.mono ?_); rintro e w2 ⟨bx, rfl, hp, hg, hr⟩)
   have HX := qh hr
   have H := qh (H.out.trans ⟨hp, hg⟩)
   clear hp hg hr D1
   go_wp2_with fail
   go_loopw [3] (fun xv wr => ∃ (x : T1) (bx j f : Nat), xv = .pointer (some ⟨bx, 0, none⟩) ∧ lo ≤ j ∧ j ≤ L.length ∧ L.length < j + f ∧ Hid (PG w0 w wr br A c L j) ∧ Hid (RepS (fun y => w.heap.size ≤ y) wr (.node x.1 x.2 .no) [.pointer (some ⟨bx, 0, none⟩)]) ∧ Hid (res = desP L ex f x j)) (fun _ wr => L.length + 1 - atW wr br)
   case atStart => exact ⟨x, bx, j, L.length + 1, rfl, by omega, by omega, by omega, H, HX, HS⟩
   case round =>
    clear H HX HS hj
    obtain ⟨x, bx, j, f, rfl, hjl, hj, hf, H, HX, HS⟩ := hrel
    obtain ⟨wo, rfl⟩ : ∃ wo : World, wo = wr := ⟨_, rfl⟩
    have HW := qh H.out.1.atW
    obtain ⟨k, p1, p2, q1, q2, t, n, e1, e2⟩ := val_form (tk L j)
    have hp : pos L j = (p1, p2) := by unfold pos; rw [e1]
    have n1 := now_any HT.out (by omega) wo H.out.1
    rw [e2] at n1
    have N1 := qh n1
    have HPOS := qh hp
    clear n1 e1 e2 hp
    obtain ⟨f, rfl⟩ : ∃ f', f = f' + 1 := ⟨f - 1, by omega⟩
    have HS1 := qh (HS.out.trans (desP_succ L ex f x j))
    rw [HPOS.out] at HS1
    clear HS
    go_wp2_with fail
    ((with_reducible refine N1.out.mono ?_); rintro e w3 ⟨rfl, hb⟩)
    have H := qh (H.out.below hb)
    have HX := qh (HX.out.below hb)
    clear hb N1
    have i1 := is_any HT.out (i := j) (by omega) sDot w3 H.out.1
    cases hD : isT L j sDot with
    | true =>
      rw [hD] at i1
      have hjlt := isT_lt hD
      have I1 := qh i1
      have HS2 := qh (HS1.out.trans (if_pos hD))
      clear i1 HS1
      go_wp2_with fail
      ((with_reducible refine I1.out.mono ?_); rintro e w4 ⟨rfl, hb⟩)
      have H := qh (H.out.below hb)
      have HX := qh (HX.out.below hb)
      clear hb I1
      have d1 := dot_any HT.out (i := j) (by omega) x bx w4 H.out.1 hbr0 H.out.2.size HX.out hD
      cases hd : dotP L x j with
      | error k =>
        rw [hd] at d1
        have HS := qh (show res = .error k by rw [HS2.out, hd])
        have D1 := qh d1
        clear d1 HS2
        go_wp2_with fail
        ((with_reducible refine (D1.out).mono ?_); rintro e w1 ⟨rfl, hb⟩)
        have H3 := qh (grown_trans H.out.2 hb)
        clear hb
        go_wp2
        refine ⟨rfl, ?_⟩
        rw [HS.out]
        exact ⟨rfl, H3.out⟩
      | ok r =>
        obtain ⟨y, j2⟩ := r
        rw [hd] at d1
        have HS := qh (show res = desP L ex f y j2 by rw [HS2.out, hd])
        have hj2 := dotP_lt hd
        have D1 := qh d1
        clear d1 hd HS2
        go_wp2_with fail
        ((with_reducible refine D1.out.mono ?_); rintro e w5 ⟨by_, rfl, hp, hg, hr⟩)
        have H2 := qh (H.out.trans ⟨hp, hg⟩)
        have HX := qh hr
        clear hp hg hr
        go_wp2
        go_roundw
        case rel => exact ⟨y, by_, j2, f, rfl, by omega, by omega, by omega, H2, HX, HS⟩
        case measure => rw [H2.out.1.atW, HW.out]; omega
    | false =>
      rw [hD] at i1
      have I1 := qh i1
      have HS2 := qh (HS1.out.trans (if_neg (by rw [hD]; simp)))
      clear i1 HS1
      go_wp2_with fail
      ((with_reducible refine I1.out.mono ?_); rintro e w4 ⟨rfl, hb⟩)
      have H := qh (H.out.below hb)
      have HX := qh (HX.out.below hb)
      clear hb I1
      cases hH : isT L j sHat with
      | true =>
        have hjlt := isT_lt hH
        have EY := qh (eat_yes HT.out (by omega) sHat _ H.out.1 hH)
        have HS3 := qh (HS2.out.trans (if_pos hH))
        clear HS2
        go_wp2_with fail
        ((with_reducible refine EY.out.mono ?_); rintro e w5 ⟨rfl, hb⟩)
        have H := qh (H.out.trans hb)
        have HX := qh (repS_grown HX.out hb.2 hbr0)
        have NW := qh (new_at (B := w.heap.size) (w := w5.alloc (.cells #[.pointer (some ⟨bx, 0, none⟩)] 31)) (by have := H.out.2.size; rw [World.size_alloc]; omega) 4 4 rfl p1 p2 sNil 0 (some ⟨w5.heap.size, 0, none⟩) 1 1 [.pointer (some ⟨bx, 0, none⟩)] (.node x.1 x.2 .no) rfl (by omega) (reads_lit w5 #[.pointer (some ⟨bx, 0, none⟩)] _) (kids1 HX.out _))
        clear hb
        go_wp2_with fail
        ((with_reducible refine NW.out.mono ?_); rintro e w6 ⟨b, rfl, hb, hr⟩)
        have H2 := qh ((H.out.alloc _).below hb)
        have HR := qh hr
        clear hb hr
        go_wp2
        go_roundw
        case rel => exact ⟨mk 4 (p1, p2) sNil 0 [x], b, j + 1, f, rfl, by omega, by omega, by omega, H2, HR, HS3⟩
        case measure => rw [H2.out.1.atW, HW.out]; omega
      | false =>
        have EN := qh (eat_no HT.out (by omega) sHat _ H.out.1 hH)
        have HS3 := qh (HS2.out.trans (if_neg (by rw [hH]; simp)))
        clear HS2
        go_wp2_with fail
        ((with_reducible refine EN.out.mono ?_); rintro e w5 ⟨rfl, hb⟩)
        have H := qh (H.out.trans hb)
        have HX := qh (repS_grown HX.out hb.2 hbr0)
        clear hb
        cases hB : isT L j sBra with
        | false =>
          have EN := qh (eat_no HT.out (by omega) sBra _ H.out.1 hB)
          have HS := qh (HS3.out.trans (if_neg (by rw [hB]; simp)))
          clear HS3
          go_wp2_with fail
          ((with_reducible refine EN.out.mono ?_); rintro e w6 ⟨rfl, hb⟩)
          have H := qh (H.out.trans hb)
          have HX := qh (repS_grown HX.out hb.2 hbr0)
          clear hb
          go_wp2
          (try simp only [Exit.inBlock, Exit.then])
          go_ret
          rw [HS.out]
          exact ⟨bx, rfl, H.out.1, H.out.2, HX.out⟩
        | true =>
          have hjlt := isT_lt hB
          have EY := qh (eat_yes HT.out (by omega) sBra _ H.out.1 hB)
          have HS4 := qh (HS3.out.trans (if_pos hB))
          clear HS3
          go_wp2_with fail
          ((with_reducible refine EY.out.mono ?_); rintro e w6 ⟨rfl, hb⟩)
          have H := qh (H.out.trans hb)
          have HX := qh (repS_grown HX.out hb.2 hbr0)
          clear hb
          have d2 := HE.out (j + 1) (by omega) (by omega) w6 H.out.1
          cases hy : ex (j + 1) with
          | error k =>
            rw [hy] at d2
            have HS := qh (show res = .error k by rw [HS4.out, hy])
            have D2 := qh d2
            clear d2 HS4
            go_wp2_with fail
            ((with_reducible refine (D2.out).mono ?_); rintro e w1 ⟨rfl, hb⟩)
            have H3 := qh (grown_trans H.out.2 hb)
            clear hb
            go_wp2
            refine ⟨rfl, ?_⟩
            rw [HS.out]
            exact ⟨rfl, H3.out⟩
          | ok r =>
            obtain ⟨y, j2⟩ := r
            rw [hy] at d2
            have hj2 := HM.out _ _ _ hy
            have HS5 := qh (show res = (match commasP L ex (L.length + 1) (mk 3 (p1, p2) sNil 0 [x, y]) j2 with
             | .error k => .error k
             | .ok (z, j2) => match need L j2 sKet with
               | .error k => .error k
               | .ok j3 => desP L ex f z j3) by rw [HS4.out, hy])
            have D2 := qh d2
            clear d2 hy HS4
            go_wp2_with fail
            ((with_reducible refine D2.out.mono ?_); rintro e w7 ⟨by_, rfl, hp, hg, hr⟩)
            have HY := qh (hr.more (S' := fun y => w.heap.size ≤ y) fun y hy _ => Nat.le_trans H.out.2.size hy)
            have HX := qh (repS_grown HX.out hg hbr0)
            have H := qh (H.out.trans ⟨hp, hg⟩)
            have NW := qh (new_at (B := w.heap.size) (w := w7.alloc (.cells #[.pointer (some ⟨bx, 0, none⟩), .pointer (some ⟨by_, 0, none⟩)] 31)) (by have := H.out.2.size; rw [World.size_alloc]; omega) 3 3 rfl p1 p2 sNil 0 (some ⟨w7.heap.size, 0, none⟩) 2 2 [.pointer (some ⟨bx, 0, none⟩), .pointer (some ⟨by_, 0, none⟩)] (.node x.1 x.2 (.node y.1 y.2 .no)) rfl (by omega) (reads_lit w7 #[.pointer (some ⟨bx, 0, none⟩), .pointer (some ⟨by_, 0, none⟩)] _) (kids2 HX.out HY.out _))
            clear hp hg hr HY
            go_wp2_with fail
            ((with_reducible refine NW.out.mono ?_); rintro e w8 ⟨b, rfl, hb, hr⟩)
            have H := qh ((H.out.alloc _).below hb)
            have HX := qh hr
            clear hb hr NW
            obtain ⟨k, s1, s2, q1, q2, t, n, e1, e2⟩ := val_form (tk L j2)
            have hps : pos L j2 = (s1, s2) := by unfold pos; rw [e1]
            have n1 := now_any HT.out (i := j2) (by omega) w8 H.out.1
            rw [e2] at n1
            have N1 := qh n1
            have HPS := qh hps
            clear n1 e1 e2 hps
            go_wp2_with fail
            ((with_reducible refine N1.out.mono ?_); rintro e w9 ⟨rfl, hb⟩)
            have H := qh (H.out.below hb)
            have HX := qh (HX.out.below hb)
            clear hb N1
            go_wp2_with fail
            go_loopw [3, 4] (fun xv pv wq => ∃ (z : T1) (bz j3 f2 r1 r2 : Nat), xv = .pointer (some ⟨bz, 0, none⟩) ∧ pv = .complex .f64 (fl r1) (fl r2) ∧ j < j3 ∧ j3 ≤ L.length ∧ L.length < j3 + f2 ∧ Hid (pos L j3 = (r1, r2)) ∧ Hid (PG w0 w wq br A c L j3) ∧ Hid (RepS (fun y => w.heap.size ≤ y) wq (.node z.1 z.2 .no) [.pointer (some ⟨bz, 0, none⟩)]) ∧ Hid (res = (match commasP L ex f2 z j3 with
             | .error k => .error k
             | .ok (z, j2) => match need L j2 sKet with
               | .error k => .error k
               | .ok j3 => desP L ex f z j3))) (fun _ _ wq => L.length + 1 - atW wq br)
            case atStart => exact ⟨mk 3 (p1, p2) sNil 0 [x, y], b, j2, L.length + 1, s1, s2, rfl, rfl, by omega, by omega, by omega, HPS, H, HX, HS5⟩
            case round =>
             clear H HX HS5 HPS hj2
             obtain ⟨z, bz, j3, f2, r1, r2, rfl, rfl, hjj, hj3, hf2, HPS, H, HX, HS5⟩ := hrel
             have HW2 := qh H.out.1.atW
             obtain ⟨f2, rfl⟩ : ∃ f', f2 = f' + 1 := ⟨f2 - 1, by omega⟩
             have HC := qh (commasP_succ L ex f2 z j3)
             rw [HPS.out] at HC
             cases hC : isT L j3 sCom with
             | false =>
               have EN := qh (eat_no HT.out (by omega) sCom _ H.out.1 hC)
               have HS6 := qh (show res = (match need L j3 sKet with
                | .error k => .error k
                | .ok j3 => desP L ex f z j3) by rw [HS5.out, HC.out, if_neg (by rw [hC]; simp)])
               clear HS5 HC
               go_wp2_with fail
               ((with_reducible refine EN.out.mono ?_); rintro e v1 ⟨rfl, hb⟩)
               have H := qh (H.out.trans hb)
               have HX := qh (repS_grown HX.out hb.2 hbr0)
               clear hb
               cases hK : isT L j3 sKet with
               | false =>
                 have ND := qh (need_no HT.out (by omega) sKet _ H.out.1 hK)
                 have HS := qh (show res = .error j3 by rw [HS6.out]; unfold need; rw [if_neg (by rw [hK]; simp)])
                 clear HS6
                 go_wp2_with fail
                 ((with_reducible refine (ND.out).mono ?_); rintro e w1 ⟨rfl, hb⟩)
                 have H3 := qh (grown_trans H.out.2 hb)
                 clear hb
                 go_wp2
                 refine ⟨rfl, ?_⟩
                 rw [HS.out]
                 exact ⟨rfl, H3.out⟩
               | true =>
                 have hjlt := isT_lt hK
                 have ND := qh (need_ok HT.out (by omega) sKet _ H.out.1 hK)
                 have HS := qh (show res = desP L ex f z (j3 + 1) by rw [HS6.out]; unfold need; rw [if_pos hK])
                 clear HS6
                 go_wp2_with fail
                 ((with_reducible refine ND.out.mono ?_); rintro e v2 ⟨rfl, hb⟩)
                 have H2 := qh (H.out.trans hb)
                 have HX := qh (repS_grown HX.out hb.2 hbr0)
                 clear hb
                 go_wp2
                 go_roundw
                 case rel => exact ⟨z, bz, j3 + 1, f, rfl, by omega, by omega, by omega, H2, HX, HS⟩
                 case measure => rw [H2.out.1.atW, HW.out]; omega
             | true =>
               have hjlt2 := isT_lt hC
               have EY := qh (eat_yes HT.out (by omega) sCom _ H.out.1 hC)
               have HC2 := qh (HC.out.trans (if_pos hC))
               clear HC
               go_wp2_with fail
               ((with_reducible refine EY.out.mono ?_); rintro e v1 ⟨rfl, hb⟩)
               have H := qh (H.out.trans hb)
               have HX := qh (repS_grown HX.out hb.2 hbr0)
               clear hb
               have d3 := HE.out (j3 + 1) (by omega) (by omega) v1 H.out.1
               cases hy : ex (j3 + 1) with
               | error k =>
                 rw [hy] at d3
                 have HS := qh (show res = .error k by rw [HS5.out, HC2.out, hy])
                 have D3 := qh d3
                 clear d3 HS5 HC2
                 go_wp2_with fail
                 ((with_reducible refine (D3.out).mono ?_); rintro e w1 ⟨rfl, hb⟩)
                 have H3 := qh (grown_trans H.out.2 hb)
                 clear hb
                 go_wp2
                 refine ⟨rfl, ?_⟩
                 rw [HS.out]
                 exact ⟨rfl, H3.out⟩
               | ok r =>
                 obtain ⟨y, j4⟩ := r
                 rw [hy] at d3
                 have hj4 := HM.out _ _ _ hy
                 have HS7 := qh (show res = (match commasP L ex f2 (mk 3 (r1, r2) sNil 0 [z, y]) j4 with
                  | .error k => .error k
                  | .ok (z, j2) => match need L j2 sKet with
                    | .error k => .error k
                    | .ok j3 => desP L ex f z j3) by rw [HS5.out, HC2.out, hy])
                 have D3 := qh d3
                 clear d3 hy HS5 HC2
                 go_wp2_with fail
                 ((with_reducible refine D3.out.mono ?_); rintro e v2 ⟨by_, rfl, hp, hg, hr⟩)
                 have HY := qh (hr.more (S' := fun y => w.heap.size ≤ y) fun y hy _ => Nat.le_trans H.out.2.size hy)
                 have HX := qh (repS_grown HX.out hg hbr0)
                 have H := qh (H.out.trans ⟨hp, hg⟩)
                 have NW := qh (new_at (B := w.heap.size) (w := v2.alloc (.cells #[.pointer (some ⟨bz, 0, none⟩), .pointer (some ⟨by_, 0, none⟩)] 31)) (by have := H.out.2.size; rw [World.size_alloc]; omega) 3 3 rfl r1 r2 sNil 0 (some ⟨v2.heap.size, 0, none⟩) 2 2 [.pointer (some ⟨bz, 0, none⟩), .pointer (some ⟨by_, 0, none⟩)] (.node z.1 z.2 (.node y.1 y.2 .no)) rfl (by omega) (reads_lit v2 #[.pointer (some ⟨bz, 0, none⟩), .pointer (some ⟨by_, 0, none⟩)] _) (kids2 HX.out HY.out _))
                 clear hp hg hr HY
                 go_wp2_with fail
                 ((with_reducible refine NW.out.mono ?_); rintro e v3 ⟨b2, rfl, hb, hr⟩)
                 have H := qh ((H.out.alloc _).below hb)
                 have HX := qh hr
                 clear hb hr NW
                 obtain ⟨k, s1, s2, q1, q2, t, n, e1, e2⟩ := val_form (tk L j4)
                 have hps : pos L j4 = (s1, s2) := by unfold pos; rw [e1]
                 have n1 := now_any HT.out (i := j4) (by omega) v3 H.out.1
                 rw [e2] at n1
                 have N1 := qh n1
                 have HPS2 := qh hps
                 clear n1 e1 e2 hps
                 go_wp2_with fail
                 ((with_reducible refine N1.out.mono ?_); rintro e v4 ⟨rfl, hb⟩)
                 have H2 := qh (H.out.below hb)
                 have HX := qh (HX.out.below hb)
                 clear hb N1
                 go_wp2
                 go_roundw
                 case rel => exact ⟨mk 3 (r1, r2) sNil 0 [z, y], b2, j4, f2, s1, s2, rfl, rfl, by omega, by omega, by omega, HPS2, H2, HX, HS7⟩
                 case measure => rw [H2.out.1.atW, HW2.out]; omega
end Go.Proofs.YtkemhmfdooghkaaGreatDoor.Ex
