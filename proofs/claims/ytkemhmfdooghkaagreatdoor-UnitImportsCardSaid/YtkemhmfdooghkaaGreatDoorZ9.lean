/- A part of the proof: E4, E5. -/
import Derived.Test.YtkemhmfdooghkaaGreatDoorZ1
import Derived.Test.YtkemhmfdooghkaaGreatDoorZ8
import Derived.Deep.RegionLaw
set_option linter.unusedSimpArgs false
set_option linter.unusedVariables false

section
namespace Go.Proofs.YtkemhmfdooghkaaGreatDoor.Ex
open Go.RowKit
open Tr (Nd Fo RepS RepN)
open Lx (Tk noTk Blk run_store_complexL TokAt)
open Fl
attribute [local go_sem] run_store_complexL
theorem run_field1 (v0 v1 v2 v3 v4 : Value) (w : World) : (Instr.field 40 (.agg #[v0, v1, v2, v3, v4]) 1).run Tryz.prog w = .ok v1 w := by kernel_rfl
theorem run_field3 (v0 v1 v2 v3 v4 : Value) (w : World) : (Instr.field 40 (.agg #[v0, v1, v2, v3, v4]) 3).run Tryz.prog w = .ok v3 w := by kernel_rfl
attribute [local go_sem] run_field1 run_field3
section
variable {w0 w w1 w2 : World} {br c i j : Nat} {A : Option Addr} {L : List PT}
theorem reads_lit (w : World) (cs : Array Value) (t : TypeId) : Reads (w.alloc (.cells cs t)) (w.alloc (.cells cs t)).heap.size 1 (some ⟨w.heap.size, 0, none⟩) cs.size cs.toList := by
 refine ⟨by simp, fun _ => ⟨_, rfl, by rw [World.size_alloc]; exact Nat.lt_succ_self _, ?_⟩⟩
 exact World.news_of_block (heap_alloc_new w _)
theorem repN_of {S : Nat → Prop} : ∀ {f : Fo} {vs : List Value}, RepS S w f vs → RepN S w f vs
 | .no, vs, h => by unfold RepS at h; unfold RepN; exact h
 | .node d k r, vs, h => by
   unfold RepS at h
   obtain ⟨b, A, c, ks, vs', rfl, h2, h3, h4, h5, h6, h7⟩ := h
   unfold RepN
   refine ⟨_, vs', rfl, .inr ?_, repN_of h7⟩
   unfold RepS
   exact ⟨b, A, c, ks, [], rfl, h2, h3, h4, h5, h6, by unfold RepS; rfl⟩
theorem repS_grown {B : Nat} {f : Fo} {vs : List Value} (h : RepS (fun x => B ≤ x) w f vs) (hg : w.grownBy w1 (some br)) (hbr : br < B) : RepS (fun x => B ≤ x) w1 f vs :=
 h.keep hg.size (fun x hx hl => hg.block x hl (fun e => by injection e with e; omega)) (fun x h _ => h)
theorem repS_cons {S : Nat → Prop} {d : Nd} {k : Fo} {v : Value} {f : Fo} {vs : List Value} (h1 : RepS S w (.node d k .no) [v]) (h2 : RepS S w f vs) : RepS S w (.node d k f) (v :: vs) := by
 unfold RepS at h1 ⊢
 obtain ⟨b, A, c, ks, vs', e, g2, g3, g4, g5, g6, g7⟩ := h1
 unfold RepS at g7
 subst g7
 injection e with e
 exact ⟨b, A, c, ks, vs, by rw [e], g2, g3, g4, g5, g6, h2⟩
theorem PG.trans (h : PG w0 w w1 br A c L i) (h2 : PInv w0 w2 br A c L j ∧ w1.grownBy w2 (some br)) : PG w0 w w2 br A c L j := ⟨h2.1, grown_trans h.2 h2.2⟩
theorem PG.start (h : PInv w0 w br A c L i) : PG w0 w w br A c L i := ⟨h, ⟨rfl, rfl, rfl, Nat.le_refl _, fun _ _ _ => rfl⟩⟩
theorem PG.alloc (h : PG w0 w w1 br A c L i) (o : Obj) : PG w0 w (w1.alloc o) br A c L i := h.below ((Below.refl _ _).alloc (Nat.le_refl _) _)
end
theorem new_at {B : Nat} {w : World} (hw : B ≤ w.heap.size) (kI : Int) (kind : Nat) (hkI : kI = (kind : Int)) (p1 p2 : Nat) (name : ByteArray) (n : Int) (A' : Option Addr) (c' m : Nat) (vs : List Value) (f : Fo) (hm : vs.length = m) (hv : m ≤ 1000000)
 (hA : Reads w w.heap.size 1 A' m vs) (hk : RepN (fun x => B ≤ x) w f vs) :
 Calls Tryz.prog 33 #[.int .u8 kI, .complex .f64 (fl p1) (fl p2), .string name, .int .i64 n, .slice A' m c'] w fun e w' =>
  ∃ b, e = .returned (.pointer (some ⟨b, 0, none⟩)) ∧ Below w.heap.size w w' ∧ RepS (fun x => B ≤ x) w' (.node ⟨kind, (p1, p2), name, n⟩ f .no) [.pointer (some ⟨b, 0, none⟩)] := by
 subst hm hkI
 refine (Tr.new_any _ kind p1 p2 name n A' c' vs f w hv hA hk).mono ?_
 rintro e w' ⟨u, rfl, hb, hr⟩
 obtain ⟨b, _, _, _, rfl, _⟩ := hr.rep.one
 exact ⟨b, rfl, hb, hr.more fun x hx _ => by rcases hx with hx | hx <;> omega⟩
set_option maxRecDepth 100000 in set_option maxHeartbeats 6400000 in
theorem dot_any {w0 : World} {br c i : Nat} {A : Option Addr} {L : List PT} (ht : Toks w0 br A L) (hi : i ≤ 800000) (x : T1) (bx : Nat) (w : World) (h : PInv w0 w br A c L i) {B : Nat} (hBr : br < B) (hBw : B ≤ w.heap.size)
 (hx : RepS (fun y => B ≤ y) w (.node x.1 x.2 .no) [.pointer (some ⟨bx, 0, none⟩)]) (hT : isT L i sDot = true) :
 Calls Tryz.prog 168 #[.pointer (some ⟨br, 0, none⟩), .pointer (some ⟨bx, 0, none⟩)] w (TreeR B w0 w br A c L (dotP L x i)) := by
 have n1 := now_any ht (by omega) w h
 obtain ⟨k, p1, p2, q1, q2, t, n, e1, e2⟩ := val_form (tk L i)
 have hp : pos L i = (p1, p2) := by unfold pos; rw [e1]
 rw [e2] at n1
 have N1 := qh n1
 have ND := qh (fun w h => need_ok ht (i := i) (by omega) (c := c) sDot w h hT)
 have H := qh (PG.start h)
 have HX := qh hx
 clear n1 e1 e2 h hx
 by_cases hk : (tk L (i + 1)).1.kind = 1
 ·obtain ⟨k2, a1, a2, b1, b2, t2, n2, e3, e4⟩ := val_form (tk L (i + 1))
  have HS := qh (show dotP L x i = .ok ((⟨2, (p1, p2), t2, 0⟩, .node x.1 x.2 .no), i + 1 + 1) from by
   unfold dotP need nameP
   rw [if_pos hT]
   dsimp only
   rw [if_pos hk]
   dsimp only
   rw [e3, hp]
   rfl)
  have NM := qh (fun w h => name_ok ht (i := i + 1) (by omega) (c := c) w h hk)
  rw [e4] at NM
  clear ht hk hp hT e3 e4
  go_enter Tryz.func168, Tryz.ntmps168
  go_wp2_with fail
  ((with_reducible refine N1.out.mono ?_); rintro e w1 ⟨rfl, hb⟩)
  have H := qh (H.out.below hb)
  clear hb
  go_wp2_with fail
  ((with_reducible refine (ND.out _ H.out.1).mono ?_); rintro e w2 ⟨rfl, hb⟩)
  have H := qh (H.out.trans hb)
  clear hb
  go_wp2_with fail
  ((with_reducible refine (NM.out _ H.out.1).mono ?_); rintro e w3 ⟨rfl, hb⟩)
  have H := qh (H.out.trans hb)
  have HX3 := qh (repS_grown HX.out H.out.2 hBr)
  have NW := qh (new_at (B := B) (w := w3.alloc (.cells #[.pointer (some ⟨bx, 0, none⟩)] 31)) (by have := H.out.2.size; rw [World.size_alloc]; omega) 2 2 rfl p1 p2 t2 0 (some ⟨w3.heap.size, 0, none⟩) 1 1 [.pointer (some ⟨bx, 0, none⟩)] (.node x.1 x.2 .no) rfl (by omega) (reads_lit w3 #[.pointer (some ⟨bx, 0, none⟩)] _) (repN_of (HX3.out.below ((Below.refl _ _).alloc (Nat.le_refl _) _))))
  clear hb
  go_wp2_with fail
  ((with_reducible refine NW.out.mono ?_); rintro e w4 ⟨b, rfl, hb, hr⟩)
  have H := qh ((H.out.alloc _).below hb)
  have HR := qh hr
  clear hb hr
  go_wp2
  go_ret
  rw [HS.out]
  exact ⟨b, rfl, H.out.1, H.out.2, HR.out⟩
 ·have HS := qh (show dotP L x i = .error (i + 1) by
   unfold dotP need nameP
   rw [if_pos hT]
   dsimp only
   rw [if_neg hk])
  have NM := qh (fun w h => name_no ht (i := i + 1) (by omega) (c := c) w h hk)
  clear ht hk hp hT
  go_enter Tryz.func168, Tryz.ntmps168
  go_wp2_with fail
  ((with_reducible refine N1.out.mono ?_); rintro e w1 ⟨rfl, hb⟩)
  have H := qh (H.out.below hb)
  clear hb
  go_wp2_with fail
  ((with_reducible refine (ND.out _ H.out.1).mono ?_); rintro e w2 ⟨rfl, hb⟩)
  have H := qh (H.out.trans hb)
  clear hb
  go_wp2_with fail
  ((with_reducible refine (NM.out _ H.out.1).mono ?_); rintro e w3 ⟨rfl, hb⟩)
  have H3 := qh (grown_trans H.out.2 hb)
  clear hb
  go_wp2
  refine ⟨rfl, ?_⟩
  rw [HS.out]
  exact ⟨rfl, H3.out⟩
end Go.Proofs.YtkemhmfdooghkaaGreatDoor.Ex
end

section
namespace Go.Proofs.YtkemhmfdooghkaaGreatDoor.Ex
open Go.RowKit
open Tr (Nd Fo RepS RepN)
open Lx (Tk noTk Blk run_store_complexL TokAt)
open Fl
attribute [local go_sem] run_store_complexL run_field1 run_field3
def atW (w : World) (br : Nat) : Nat := match w.cell? ⟨br, 1, none⟩ with
 | some (.int _ n) => n.toNat
 | _ => 0
theorem PInv.atW {w0 w : World} {br c i : Nat} {A : Option Addr} {L : List PT} (h : PInv w0 w br A c L i) : atW w br = i := by
 unfold Ex.atW
 rw [h.at_.1]
 simp
theorem dotsP_succ (L : List PT) (f : Nat) (x : T1) (i : Nat) : dotsP L (f + 1) x i = if isT L i sDot = true then (match dotP L x i with
 | .error k => .error k
 | .ok (y, j) => dotsP L f y j) else .ok (x, i) := rfl
theorem nameP_le {L : List PT} {i j : Nat} {t : PT} (h : nameP L i = .ok (t, j)) : j = i + 1 ∧ t = tk L i ∧ (tk L i).1.kind = 1 := by
 unfold nameP at h
 split at h
 ·injection h with h; injection h with h1 h2; exact ⟨h2.symm, h1.symm, by assumption⟩
 ·cases h
theorem need_le {L : List PT} {i j : Nat} {s : ByteArray} (h : need L i s = .ok j) : j = i + 1 ∧ isT L i s = true := by
 unfold need at h
 split at h
 ·injection h with h; exact ⟨h.symm, by assumption⟩
 ·cases h
theorem dotP_le {L : List PT} {i j : Nat} {x y : T1} (h : dotP L x i = .ok (y, j)) : j = i + 2 := by
 unfold dotP at h
 split at h
 ·cases h
 ·rename_i j1 h1
  split at h
  ·cases h
  ·rename_i t j2 h2
   injection h with h; injection h with h3 h4
   have := need_le h1
   have := nameP_le h2
   omega
set_option maxRecDepth 100000 in set_option maxHeartbeats 6400000 in
theorem qual_any {w0 : World} {br c i : Nat} {A : Option Addr} {L : List PT} (ht : Toks w0 br A L) (hi : i ≤ 100000) (w : World) (h : PInv w0 w br A c L i) :
 Calls Tryz.prog 167 #[.pointer (some ⟨br, 0, none⟩)] w (TreeR w.heap.size w0 w br A c L (qualP L i)) := by
 have hbr0 := h.row.lt
 have hlen := ht.len
 have H := qh (PG.start h)
 by_cases hk : (tk L i).1.kind = 1
 ·obtain ⟨k2, a1, a2, b1, b2, t2, n2, e3, e4⟩ := val_form (tk L i)
  have nm := name_ok ht (by omega) w h hk
  rw [e4] at nm
  have NM := qh nm
  have HS := qh (show qualP L i = dotsP L (L.length + 1) (⟨1, (a1, a2), t2, 0⟩, .no) (i + 1) from by
   unfold qualP nameP
   rw [if_pos hk]
   dsimp only
   rw [e3]
   rfl)
  have IS := qh (fun j (hj : j ≤ 200000) w h => is_any ht (i := j) (by omega) (c := c) sDot w h)
  have DT := qh (fun j (hj : j ≤ 200000) x bx W h hW hx hT => dot_any ht (i := j) (by omega) (c := c) x bx W h hbr0 (B := w.heap.size) hW hx hT)
  clear nm hk e3 e4 h ht
  go_enter Tryz.func167, Tryz.ntmps167
  go_wp2_with fail
  ((with_reducible refine (NM.out).mono ?_); rintro e w1 ⟨rfl, hb⟩)
  have H := qh (H.out.trans hb)
  clear hb
  have NW := qh (fun W (hW : w.heap.size ≤ W.heap.size) => new_at (B := w.heap.size) (w := W) hW 1 1 rfl a1 a2 t2 0 none 0 0 [] .no rfl (by omega) Reads.none_ (by unfold RepN; rfl))
  have hz := Nat.le_trans H.out.2.size (((Below.refl w1.heap.size w1).alloc (Nat.le_refl _) (.cells #[.int .u8 k2, .complex .f64 (fl a1) (fl a2), .complex .f64 (fl b1) (fl b2), .string t2, .int .i64 n2] 40)).size)
  go_wp2_with fail
  ((with_reducible refine (NW.out _ hz).mono ?_); rintro e w2 ⟨bx, rfl, hb, hr⟩)
  have H := qh ((H.out.alloc _).below hb)
  have HR := qh hr
  clear hb hr hz NW
  go_wp2_with fail
  go_loopw [4] (fun xv wr => ∃ (x : T1) (bx j f : Nat), xv = .pointer (some ⟨bx, 0, none⟩) ∧ j ≤ i + 1 + L.length + 2 ∧ L.length < j + f ∧ Hid (PG w0 w wr br A c L j) ∧ Hid (RepS (fun y => w.heap.size ≤ y) wr (.node x.1 x.2 .no) [.pointer (some ⟨bx, 0, none⟩)]) ∧ Hid (qualP L i = dotsP L f x j)) (fun _ wr => L.length + 1 - atW wr br)
  case atStart => exact ⟨_, bx, i + 1, L.length + 1, rfl, by omega, by omega, H, HR, HS⟩
  case round =>
   clear H HR HS NM
   obtain ⟨x, bx, j, f, rfl, hj, hf, H, HR, HS⟩ := hrel
   have HW := qh H.out.1.atW
   cases hT : isT L j sDot
   ·have i1 := IS.out j (by omega) _ H.out.1
    rw [hT] at i1
    have I1 := qh i1
    have HS2 := qh (show qualP L i = .ok (x, j) by
     rw [HS.out]
     cases f with
     | zero => rfl
     | succ f => unfold dotsP; rw [if_neg (by rw [hT]; simp)])
    clear i1
    go_wp2_with fail
    ((with_reducible refine I1.out.mono ?_); rintro e w3 ⟨rfl, hb⟩)
    have H := qh (H.out.below hb)
    have HR := qh (HR.out.below hb)
    clear hb
    go_wp2
    go_ret
    rw [HS2.out]
    exact ⟨bx, rfl, H.out.1, H.out.2, HR.out⟩
   ·have hjl := isT_lt hT
    have i1 := IS.out j (by omega) _ H.out.1
    rw [hT] at i1
    have I1 := qh i1
    obtain ⟨f, rfl⟩ : ∃ f', f = f' + 1 := ⟨f - 1, by omega⟩
    have HS2 := qh (show qualP L i = (match dotP L x j with
     | .error k => .error k
     | .ok (y, j) => dotsP L f y j) by rw [HS.out, dotsP_succ, if_pos hT])
    clear i1
    go_wp2_with fail
    ((with_reducible refine I1.out.mono ?_); rintro e w3 ⟨rfl, hb⟩)
    have H := qh (H.out.below hb)
    have HR := qh (HR.out.below hb)
    clear hb
    have d1 := DT.out j (by omega) x bx w3 H.out.1 H.out.2.size HR.out hT
    cases hd : dotP L x j with
    | error k =>
      rw [hd] at d1 HS2
      have D1 := qh d1
      clear d1
      go_wp2_with fail
      ((with_reducible refine D1.out.mono ?_); rintro e w4 ⟨rfl, hb⟩)
      have H3 := qh (grown_trans H.out.2 hb)
      clear hb
      go_wp2
      refine ⟨rfl, ?_⟩
      rw [HS2.out]
      exact ⟨rfl, H3.out⟩
    | ok r =>
      obtain ⟨y, j2⟩ := r
      rw [hd] at d1 HS2
      have hj2 := dotP_le hd
      have D1 := qh d1
      clear d1 hd
      go_wp2_with fail
      ((with_reducible refine D1.out.mono ?_); rintro e w4 ⟨by_, rfl, hp, hg, hr⟩)
      have H2 := qh (H.out.trans ⟨hp, hg⟩)
      have HR := qh hr
      clear hp hg hr
      go_wp2
      go_roundw
      case rel => exact ⟨y, by_, j2, f, rfl, by omega, by omega, H2, HR, HS2⟩
      case measure => rw [H2.out.1.atW, HW.out]; omega
 ·have HS := qh (show qualP L i = .error i by
   unfold qualP nameP
   rw [if_neg hk])
  have NM := qh (name_no ht (by omega) w h hk)
  clear hk h ht
  go_enter Tryz.func167, Tryz.ntmps167
  go_wp2_with fail
  ((with_reducible refine (NM.out).mono ?_); rintro e w1 ⟨rfl, hb⟩)
  have H3 := qh (grown_trans H.out.2 hb)
  clear hb
  go_wp2
  refine ⟨rfl, ?_⟩
  rw [HS.out]
  exact ⟨rfl, H3.out⟩
end Go.Proofs.YtkemhmfdooghkaaGreatDoor.Ex
end
