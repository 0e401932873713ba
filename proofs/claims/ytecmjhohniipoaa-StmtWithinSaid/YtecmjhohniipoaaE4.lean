/- New, within a parse; the walks of dot, qualident. -/
import Derived.Test.YtecmjhohniipoaaE3
import Derived.Deep.RegionLaw
set_option linter.unusedSimpArgs false
set_option linter.unusedVariables false
namespace Go.Proofs.Ytecmjhohniipoaa.Ex
open Go.RowKit
open Tr (Nd Fo RepS RepN)
open Lx (Tk noTk Blk run_store_complexL TokAt)
open Fl
attribute [local go_sem] run_store_complexL

theorem run_field1 (v0 v1 v2 v3 v4 : Value) (w : World) : (Instr.field 68 (.agg #[v0, v1, v2, v3, v4]) 1).run Try.prog w = .ok v1 w := by kernel_rfl
theorem run_field3 (v0 v1 v2 v3 v4 : Value) (w : World) : (Instr.field 68 (.agg #[v0, v1, v2, v3, v4]) 3).run Try.prog w = .ok v3 w := by kernel_rfl
attribute [local go_sem] run_field1 run_field3
section
variable {w0 w w1 w2 : World} {br c i j : Nat} {A : Option Addr} {L : List PT}
theorem reads_lit (w : World) (cs : Array Value) (t : TypeId) : Reads (w.alloc (.cells cs t)) (w.alloc (.cells cs t)).heap.size 1 (some ⟨w.heap.size, 0, none⟩) cs.size cs.toList := by
  refine ⟨by simp, fun _ => ⟨_, rfl, by rw [World.size_alloc]; exact Nat.lt_succ_self _, ?_⟩⟩
  exact World.news_of_block (heap_alloc_new w _)
theorem repN_of {S : Nat → Prop} : ∀ {f : Fo} {vs : List Value}, RepS S w f vs → RepN S w f vs
  | .no, vs, h => by unfold RepS at h; unfold RepN; exact h
  | .node d k r, vs, h => by
    unfold RepS at h
    obtain ⟨b, A, c, ks, vs', rfl, h2, h3, h4, h5, h6, h7⟩ := h
    unfold RepN
    refine ⟨_, vs', rfl, .inr ?_, repN_of h7⟩
    unfold RepS
    exact ⟨b, A, c, ks, [], rfl, h2, h3, h4, h5, h6, by unfold RepS; rfl⟩
theorem repS_grown {B : Nat} {f : Fo} {vs : List Value} (h : RepS (fun x => B ≤ x) w f vs) (hg : w.grownBy w1 (some br)) (hbr : br < B) : RepS (fun x => B ≤ x) w1 f vs :=
  h.keep hg.size (fun x hx hl => hg.block x hl (fun e => by injection e with e; omega)) (fun x h _ => h)
theorem repS_cons {S : Nat → Prop} {d : Nd} {k : Fo} {v : Value} {f : Fo} {vs : List Value} (h1 : RepS S w (.node d k .no) [v]) (h2 : RepS S w f vs) : RepS S w (.node d k f) (v :: vs) := by
  unfold RepS at h1 ⊢
  obtain ⟨b, A, c, ks, vs', e, g2, g3, g4, g5, g6, g7⟩ := h1
  unfold RepS at g7
  subst g7
  injection e with e
  exact ⟨b, A, c, ks, vs, by rw [e], g2, g3, g4, g5, g6, h2⟩
theorem PG.trans (h : PG w0 w w1 br A c L i) (h2 : PInv w0 w2 br A c L j ∧ w1.grownBy w2 (some br)) : PG w0 w w2 br A c L j := ⟨h2.1, grown_trans h.2 h2.2⟩
theorem PG.start (h : PInv w0 w br A c L i) : PG w0 w w br A c L i := ⟨h, ⟨rfl, rfl, rfl, Nat.le_refl _, fun _ _ _ => rfl⟩⟩
theorem PG.alloc (h : PG w0 w w1 br A c L i) (o : Obj) : PG w0 w (w1.alloc o) br A c L i := h.below ((Below.refl _ _).alloc (Nat.le_refl _) _)
end
/-- New, in a parse. -/
theorem new_at {B : Nat} {w : World} (hw : B ≤ w.heap.size) (kI : Int) (kind : Nat) (hkI : kI = (kind : Int)) (p1 p2 : Nat) (name : ByteArray) (n : Int) (A' : Option Addr) (c' m : Nat) (vs : List Value) (f : Fo) (hm : vs.length = m) (hv : m ≤ 1000000)
    (hA : Reads w w.heap.size 1 A' m vs) (hk : RepN (fun x => B ≤ x) w f vs) :
    Calls Try.prog 26 #[.int .u8 kI, .complex .f64 (fl p1) (fl p2), .string name, .int .i64 n, .slice A' m c'] w fun e w' =>
      ∃ b, e = .returned (.pointer (some ⟨b, 0, none⟩)) ∧ Below w.heap.size w w' ∧ RepS (fun x => B ≤ x) w' (.node ⟨kind, (p1, p2), name, n⟩ f .no) [.pointer (some ⟨b, 0, none⟩)] := by
  subst hm hkI
  refine (Tr.new_any _ kind p1 p2 name n A' c' vs f w hv hA hk).mono ?_
  rintro e w' ⟨u, rfl, hb, hr⟩
  obtain ⟨b, _, _, _, rfl, _⟩ := hr.rep.one
  exact ⟨b, rfl, hb, hr.more fun x hx _ => by rcases hx with hx | hx <;> omega⟩

set_option maxRecDepth 100000 in
set_option maxHeartbeats 3200000 in
theorem dot_any {w0 : World} {br c i : Nat} {A : Option Addr} {L : List PT} (ht : Toks w0 br A L) (hi : i ≤ 800000) (x : T1) (bx : Nat) (w : World) (h : PInv w0 w br A c L i) {B : Nat} (hBr : br < B) (hBw : B ≤ w.heap.size)
    (hx : RepS (fun y => B ≤ y) w (.node x.1 x.2 .no) [.pointer (some ⟨bx, 0, none⟩)]) (hT : isT L i sDot = true) :
    Calls Try.prog 90 #[.pointer (some ⟨br, 0, none⟩), .pointer (some ⟨bx, 0, none⟩)] w (TreeR B w0 w br A c L (dotP L x i)) := by
  have n1 := now_any ht (by omega) w h
  obtain ⟨k, p1, p2, q1, q2, t, n, e1, e2⟩ := val_form (tk L i)
  have hp : pos L i = (p1, p2) := by unfold pos; rw [e1]
  rw [e2] at n1
  have N1 := Lib.hid n1
  have ND := Lib.hid (fun w h => need_ok ht (i := i) (by omega) (c := c) sDot w h hT)
  have H := Lib.hid (PG.start h)
  have HX := Lib.hid hx
  clear n1 e1 e2 h hx
  by_cases hk : (tk L (i + 1)).1.kind = 1
  · obtain ⟨k2, a1, a2, b1, b2, t2, n2, e3, e4⟩ := val_form (tk L (i + 1))
    have HS := Lib.hid (show dotP L x i = .ok ((⟨2, (p1, p2), t2, 0⟩, .node x.1 x.2 .no), i + 1 + 1) from by
      unfold dotP need nameP
      rw [if_pos hT]
      dsimp only
      rw [if_pos hk]
      dsimp only
      rw [e3, hp]
      rfl)
    have NM := Lib.hid (fun w h => name_ok ht (i := i + 1) (by omega) (c := c) w h hk)
    rw [e4] at NM
    clear ht hk hp hT e3 e4
    go_enter Try.func90, Try.ntmps90
    go_wp2_with fail
    ((with_reducible refine N1.out.mono ?_); rintro e w1 ⟨rfl, hb⟩)
    have H := Lib.hid (H.out.below hb)
    clear hb
    go_wp2_with fail
    ((with_reducible refine (ND.out _ H.out.1).mono ?_); rintro e w2 ⟨rfl, hb⟩)
    have H := Lib.hid (H.out.trans hb)
    clear hb
    go_wp2_with fail
    ((with_reducible refine (NM.out _ H.out.1).mono ?_); rintro e w3 ⟨rfl, hb⟩)
    have H := Lib.hid (H.out.trans hb)
    have HX3 := Lib.hid (repS_grown HX.out H.out.2 hBr)
    have NW := Lib.hid (new_at (B := B) (w := w3.alloc (.cells #[.pointer (some ⟨bx, 0, none⟩)] 26)) (by have := H.out.2.size; rw [World.size_alloc]; omega) 2 2 rfl p1 p2 t2 0 (some ⟨w3.heap.size, 0, none⟩) 1 1 [.pointer (some ⟨bx, 0, none⟩)] (.node x.1 x.2 .no) rfl (by omega) (reads_lit w3 #[.pointer (some ⟨bx, 0, none⟩)] _) (repN_of (HX3.out.below ((Below.refl _ _).alloc (Nat.le_refl _) _))))
    clear hb
    go_wp2_with fail
    ((with_reducible refine NW.out.mono ?_); rintro e w4 ⟨b, rfl, hb, hr⟩)
    have H := Lib.hid ((H.out.alloc _).below hb)
    have HR := Lib.hid hr
    clear hb hr
    go_wp2
    go_ret
    rw [HS.out]
    exact ⟨b, rfl, H.out.1, H.out.2, HR.out⟩
  · have HS := Lib.hid (show dotP L x i = .error (i + 1) by
      unfold dotP need nameP
      rw [if_pos hT]
      dsimp only
      rw [if_neg hk])
    have NM := Lib.hid (fun w h => name_no ht (i := i + 1) (by omega) (c := c) w h hk)
    clear ht hk hp hT
    go_enter Try.func90, Try.ntmps90
    go_wp2_with fail
    ((with_reducible refine N1.out.mono ?_); rintro e w1 ⟨rfl, hb⟩)
    have H := Lib.hid (H.out.below hb)
    clear hb
    go_wp2_with fail
    ((with_reducible refine (ND.out _ H.out.1).mono ?_); rintro e w2 ⟨rfl, hb⟩)
    have H := Lib.hid (H.out.trans hb)
    clear hb
    go_wp2_with fail
    ((with_reducible refine (NM.out _ H.out.1).mono ?_); rintro e w3 ⟨rfl, hb⟩)
    have H3 := Lib.hid (grown_trans H.out.2 hb)
    clear hb
    go_wp2
    refine ⟨rfl, ?_⟩
    rw [HS.out]
    exact ⟨rfl, H3.out⟩
end Go.Proofs.Ytecmjhohniipoaa.Ex
