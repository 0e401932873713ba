/- A part of the proof: B0, B3, BCard0, B4. -/
import Derived.Test.YtkemhmfdooghkaaGreatDoorW1
import Derived.Test.YtkemhmfdooghkaaGreatDoorW44
import Derived.Deep.LoopGhost
import Derived.Test.YtkemhmfdooghkaaGreatDoorW45
import Derived.Deep.RegionLaw
import Derived.Test.YtkemhmfdooghkaaGreatDoorCards
import Derived.Test.YtkemhmfdooghkaaGreatDoorTie
import Derived.Lib.LaidTab
import Derived.Stop.LaidErr
import Derived.ChangeSlices
import Derived.OpenShut
set_option linter.unusedSimpArgs false
set_option linter.unusedVariables false
set_option maxRecDepth 100000
set_option maxHeartbeats 6400000
namespace Go.Proofs.YtkemhmfdooghkaaGreatDoor.Un
open Go.RowKit
open Tr (Nd Fo RepS RepN Rep cellsN)
open Lx (Tk noTk Blk run_store_complexL TokAt scanL scanF flat scanEnd at_ lex EnvS)
open Fl
open Ex
open St (TkS Good2 isWd6 sEnd ret_)
attribute [local go_sem] run_store_complexL run_field1 run_field3
def unFB : Fo → List T1
 | .no => []
 | .node d k r => (d, k) :: unFB r
theorem unF_forestB : ∀ l : List T1, unFB (forest l) = l
 | [] => by unfold forest; rfl
 | x :: l => by
   show unFB (.node x.1 x.2 (forest l)) = _
   unfold unFB
   rw [unF_forestB l]
theorem rep_lenB {S : Nat → Prop} {w : World} : ∀ {f : Fo} {vs : List Value}, RepS S w f vs → vs.length = (unFB f).length
 | .no, vs, h => by unfold RepS at h; subst h; rfl
 | .node d k r, vs, h => by
   unfold RepS at h
   obtain ⟨b, A, c, ks, vs', rfl, _, _, _, _, _, h7⟩ := h
   unfold unFB
   simp only [List.length_cons, rep_lenB h7]
theorem rep_getB {S : Nat → Prop} {w : World} : ∀ {f : Fo} {vs : List Value}, RepS S w f vs → ∀ (i : Nat) (hi : i < (unFB f).length), ∃ b, vs[i]? = some (.pointer (some ⟨b, 0, none⟩)) ∧ RepS S w (.node ((unFB f)[i]).1 ((unFB f)[i]).2 .no) [.pointer (some ⟨b, 0, none⟩)]
 | .no, vs, h, i, hi => by unfold unFB at hi; simp at hi
 | .node d k r, vs, h, i, hi => by
   unfold RepS at h
   obtain ⟨b, A, c, ks, vs', rfl, h2, h3, h4, h5, h6, h7⟩ := h
   cases i with
   | zero =>
     refine ⟨b, rfl, ?_⟩
     show RepS S w (.node d k .no) _
     unfold RepS
     exact ⟨b, A, c, ks, [], rfl, h2, h3, h4, h5, h6, by unfold RepS; rfl⟩
   | succ i =>
     unfold unFB at hi
     obtain ⟨b', g1, g2⟩ := rep_getB h7 i (by simpa using hi)
     exact ⟨b', by simpa using g1, g2⟩
theorem node_atB {S : Nat → Prop} {w : World} {d : Nd} {f : Fo} {b : Nat} (h : RepS S w (.node d f .no) [.pointer (some ⟨b, 0, none⟩)]) :
 ∃ A c, b < w.heap.size ∧ w.cell? ⟨b, 0, none⟩ = some (.int .u8 d.kind) ∧ w.cell? ⟨b, 2, none⟩ = some (.string d.name) ∧ w.cell? ⟨b, 4, none⟩ = some (.slice A (unFB f).length c) ∧
  ∀ i (hi : i < (unFB f).length), ∃ g off bi, A = some ⟨g, off, none⟩ ∧ w.cell? ⟨g, off + i, none⟩ = some (.pointer (some ⟨bi, 0, none⟩)) ∧ RepS S w (.node ((unFB f)[i]).1 ((unFB f)[i]).2 .no) [.pointer (some ⟨bi, 0, none⟩)] := by
 unfold RepS at h
 obtain ⟨b', A, c, ks, vs', e, h2, ⟨h30, h31, h32, h33, h34⟩, h4, h5, h6, h7⟩ := h
 injection e with e _
 injection e with e
 injection e with e
 injection e with e
 subst e
 have hl := rep_lenB h6
 refine ⟨A, c, Tr.cell_lt h30, h30, h32, by rw [← hl]; exact h34, fun i hi => ?_⟩
 obtain ⟨g, off, rfl, _, _⟩ := h4 (by omega)
 obtain ⟨bi, q1, q2⟩ := rep_getB h6 i hi
 obtain ⟨ad, e2, _, hc⟩ := h5.2 (by omega)
 injection e2 with e2
 subst e2
 refine ⟨g, off, bi, rfl, ?_, q2⟩
 have := hc i _ q1
 rwa [show (⟨g, off, none⟩ : Addr).add i = ⟨g, off + i, none⟩ by unfold Addr.add; split <;> simp_all] at this
theorem carB {w wr : World} {a : Addr} {v : Value} (hB : Below w.heap.size w wr) (h : w.cell? a = some v) : wr.cell? a = some v := (hB.cell (World.block_lt_of_cell? w _ h)).trans h
theorem imports_0 {w : World} {d : Nd} {l : List T1} {b : Nat} (h : RepS (fun _ => True) w (.node d (forest l) .no) [.pointer (some ⟨b, 0, none⟩)]) (hk1 : 50 ≤ d.kind) (hk2 : d.kind ≤ 52) (hl : l.length ≤ 1000) (hkk : ∀ k ∈ l, k.1.kind ≠ 53 ∧ k.1.kind ≠ 54) :
 Calls Tryz.prog 15 #[.pointer (some ⟨b, 0, none⟩)] w fun e w' => e = .returned (.slice none 0 0) ∧ Below w.heap.size w w' := by
 obtain ⟨A, c, hb, z0, z2, z4, hks⟩ := node_atB h
 rw [unF_forestB] at z4
 have HKS := qh (fun (i : Nat) (hi : i < l.length) => show ∃ g off bi, A = some ⟨g, off, none⟩ ∧ w.cell? ⟨g, off + i, none⟩ = some (.pointer (some ⟨bi, 0, none⟩)) ∧ RepS (fun _ => True) w (.node (l[i]).1 (l[i]).2 .no) [.pointer (some ⟨bi, 0, none⟩)] from by
  obtain ⟨g, off, bi, e1, e2, e3⟩ := hks i (by rw [unF_forestB]; exact hi)
  simp only [unF_forestB] at e3
  exact ⟨g, off, bi, e1, e2, e3⟩)
 have HKK := qh hkk
 have x1 : ¬ ((d.kind : Int) < 50) := by omega
 have x2 : ¬ (52 < (d.kind : Int)) := by omega
 have hmf : ∀ (fn : Fn) (first cap : Array Value) (w : World), (Instr.makeFunc fn first cap).run Tryz.prog w = .ok (.func fn first cap) w := fun _ _ _ _ => rfl
 have HN := qh (Blk.new w 44 #[.slice none 0 0])
 have HB := qh (show Below w.heap.size w (w.alloc (.cells #[.slice none 0 0] 44)) from (Below.refl _ _).alloc (Nat.le_refl _) _)
 clear h hks hkk z2
 go_enter Tryz.func15, Tryz.ntmps15
 go_wp2_with fail
 go_loopg [30] l.length (fun gh iv wr => ∃ (i : Nat), iv = .int .i64 (i : Nat) ∧ i ≤ l.length ∧ l.length - i ≤ gh ∧ Hid (Blk wr w.heap.size 44 #[.slice none 0 0]) ∧ Hid (Below w.heap.size w wr))
 case atStart => exact ⟨0, rfl, by omega, by omega, HN, HB⟩
 case round =>
  clear HN HB
  obtain ⟨i, rfl, hi, hgh, HN, HB⟩ := hrel
  have hmb : w.heap.size < wr.heap.size := HN.out.lt
  by_cases hlt : i < l.length
  ·have x3 : (i : Int) < (l.length : Int) := by omega
   obtain ⟨g, off, bi, rfl, zr, HR⟩ := HKS.out i hlt
   obtain ⟨A2, c2, hbi, q0, q2, q4, hgs⟩ := node_atB HR
   replace zr := carB HB.out zr
   replace q0 := carB HB.out q0
   have hbi' : bi < wr.heap.size := Nat.lt_of_lt_of_le hbi HB.out.size
   have hk3 := HKK.out l[i] (List.getElem_mem hlt)
   clear HR hgs q2 q4
   generalize l[i] = k at *
   obtain ⟨⟨kk, kp, kn, km⟩, kf⟩ := k
   simp only at q0 hk3
   have h54' : ¬ (kk : Int) = 54 := by omega
   have h53' : ¬ (kk : Int) = 53 := by omega
   clear hk3
   go_wp2
   go_roundg (l.length - i - 1)
   case rel => exact ⟨i + 1, by rfl, by omega, by omega, HN, HB⟩
   case measure => omega
  ·have x3 : ¬ (i : Int) < (l.length : Int) := by omega
   have m0 : wr.cell? ⟨w.heap.size, 0, none⟩ = some (.slice none 0 0) := HN.out.cell 0
   have f0 := HN.out.frozen 0
   go_wp2
   have zz := World.cell?_setCell_same wr ⟨w.heap.size, 0, none⟩ (.slice none 0 0) m0
   exact bodyPost_ret (v := .slice none 0 0) (by simp [results, Tryz.results15, go_sem, zz]) rfl ⟨rfl, HB.out.setCell (p := ⟨w.heap.size, 0, none⟩) (Nat.le_refl _) _⟩
def chkB1 (s : List UInt8) : Bool := match scanL s with
 | .ok l => match parseU (l.length + 1) (rowT s l) 0 with | .ok ((d, .node d0 _ .no), _) => decide (d.kind = 52) && decide (d0.kind = 45) | _ => false
 | .error _ => false
def chkB2 (s : List UInt8) : Bool := match scanL s with
 | .ok l => match parseU (l.length + 1) (rowT s l) 0 with | .error k => decide (k < l.length) && decide ((tk (rowT s l) k).2.1 = (1, 15)) | _ => false
 | .error _ => false
abbrev wuB1 : ByteArray := ⟨#[77, 79, 68, 85, 76, 69, 32, 97, 59, 32, 69, 78, 68, 32, 97, 46]⟩
abbrev wuB2 : ByteArray := ⟨#[77, 79, 68, 85, 76, 69, 32, 97, 59, 32, 69, 78, 68, 32, 98, 46]⟩
theorem ckB1 : chkB1 wuB1.data.toList = true := by decide +kernel
theorem ckB2 : chkB2 wuB2.data.toList = true := by decide +kernel
theorem readB1 {w : World} (E : EnvS w) : ∃ L d d0 k0 j, d.kind = 52 ∧ d0.kind = 45 ∧ Calls Tryz.prog 13 #[.string wuB1] w (ReadR w L (.ok ((d, .node d0 k0 .no), j))) := by
 have h := ckB1
 unfold chkB1 at h
 split at h
 ·rename_i l hl
  have hll := Ex.scanL_len hl
  split at h
  ·rename_i d d0 k0 j hx
   rw [Bool.and_eq_true, decide_eq_true_iff, decide_eq_true_iff] at h
   refine ⟨rowT wuB1.data.toList l, d, d0, k0, j, h.1, h.2, ?_⟩
   rw [← hx]
   exact Read_all wuB1 E hl (g := l.length + 1) (by omega)
  ·cases h
 ·cases h
theorem readB2 {w : World} (E : EnvS w) : Calls Tryz.prog 13 #[.string wuB2] w fun e w' => e = .returned (.tuple #[.pointer none, .complex .f64 (fl 1) (fl 15), .int .i64 60]) ∧ Below w.heap.size w w' := by
 have h := ckB2
 unfold chkB2 at h
 split at h
 ·rename_i l hl
  have hll := Ex.scanL_len hl
  split at h
  ·rename_i k hx
   rw [Bool.and_eq_true, decide_eq_true_iff, decide_eq_true_iff] at h
   have := Read_all wuB2 E hl (g := l.length + 1) (by omega)
   rw [hx] at this
   refine this.mono fun e w' ⟨h1, h2⟩ => ⟨?_, h2⟩
   rw [h1, h.2]
  ·cases h
 ·cases h
theorem works_all {w : World} (E : EnvS w) : Calls Tryz.prog 7 #[] w fun e w' => e = .returned (.bool true) ∧ Below w.heap.size w w' := by
 obtain ⟨L, d, d0, k0, j, hd, hd0, d1⟩ := readB1 E
 have D1 := qh d1
 have HE := qh E
 have HPS := qh (fun (w : World) => show Calls Tryz.prog 16 #[.agg #[.int .i64 1, .int .i64 15]] w fun e w' => e = .returned (.complex .f64 (fl 1) (fl 15)) ∧ Below w.heap.size w w' from Lx.pos_at (q := (1, 15)) rfl w)
 have sp : ((FloatKind.f64.format.order (fl 1) (fl 1) == some .eq) && (FloatKind.f64.format.order (fl 15) (fl 15) == some .eq)) = true := by
  rw [fl_order _ _ (by omega) (by omega), fl_order _ _ (by omega) (by omega)]; rfl
 clear d1 E
 go_enter Tryz.func7, Tryz.ntmps7
 go_wp2_with fail
 ((with_reducible refine D1.out.mono ?_); rintro e w1 ⟨b, rfl, hr, hb⟩)
 have HB := qh hb
 have HR := qh (hr.more (S' := fun _ => True) fun _ _ _ => trivial)
 have D2 := qh (readB2 (HE.out.below (Nat.le_refl _) hb))
 clear hr hb D1
 go_wp2_with fail
 ((with_reducible refine D2.out.mono ?_); rintro e w2 ⟨rfl, hb⟩)
 have HB := qh (HB.out.trans (hb.mono HB.out.size))
 have HR := qh (HR.out.below hb)
 clear hb D2
 obtain ⟨A, c, hbl, z0, _, z4, hks⟩ := node_atB HR.out
 obtain ⟨g, off, bi, rfl, zr, hr0⟩ := hks 0 (by unfold unFB; simp)
 obtain ⟨_, _, hbi, y0, _, _, _⟩ := node_atB hr0
 have hr0' : (unFB (.node d0 k0 .no)).length = 1 := by unfold unFB unFB; rfl
 rw [hr0'] at z4
 rw [show ((unFB (.node d0 k0 .no))[0]'(by rw [hr0']; omega)).1.kind = 45 from hd0] at y0
 rw [hd] at z0
 rw [Nat.add_zero] at zr
 have DI := qh (fun (w : World) (hr : RepS (fun _ => True) w (.node d (.node d0 k0 .no) .no) [.pointer (some ⟨b, 0, none⟩)]) => imports_0 (w := w) (d := d) (l := [(d0, k0)]) hr (by omega) (by omega) (by simp) (fun k hk => by rw [List.mem_singleton] at hk; subst hk; exact ⟨fun e => absurd (hd0.symm.trans e) (by decide), fun e => absurd (hd0.symm.trans e) (by decide)⟩))
 clear hks hr0 hr0'
 go_wp2_with fail
 ((with_reducible refine (HPS.out w2).mono ?_); rintro e w3 ⟨rfl, hb⟩)
 have HB := qh (HB.out.trans (hb.mono HB.out.size))
 have HR := qh (HR.out.below hb)
 have hbl3 : b < w3.heap.size := Nat.lt_of_lt_of_le hbl hb.size
 clear hb
 go_wp2_with fail
 ((with_reducible refine (DI.out w3 HR.out).mono ?_); rintro e w4 ⟨rfl, hb⟩)
 have HB := qh (HB.out.trans (hb.mono HB.out.size))
 clear hb
 go_wp2
 go_ret
 exact ⟨rfl, HB.out⟩
end Go.Proofs.YtkemhmfdooghkaaGreatDoor.Un
namespace Go.Proofs.YtkemhmfdooghkaaGreatDoor.Un
open Go.RowKit
open Tr (Nd Fo RepS RepN Rep)
open Lx (Tk noTk Blk txt lex real scanL Src src_of at_ bt bt_size run_store_complexL tok_spot own_reads rText_ok le_sum EnvS)
open Fl Ex
attribute [local go_sem] run_store_complexL
structure BsB (w : World) (A : Option Addr) (c : Nat) (l : List Nat) : Prop where
 at_ : Reads w w.heap.size 1 A l.length (l.map fun x => Value.int .u8 (x : Nat))
 small : ∀ x ∈ l, x < 256
 len : l.length ≤ 9223372036854775807
theorem same_nil (w : World) : Calls Tryz.prog 14 #[.pointer none, .pointer none] w fun e w' => e = .returned (.bool true) ∧ Below w.heap.size w w' := by
 have HB := qh (Below.refl w.heap.size w)
 go_enter Tryz.func14, Tryz.ntmps14
 go_wp2
 go_ret
 exact ⟨rfl, HB.out⟩
theorem blanks_works (s : ByteArray) {bl : List Nat} {A : Option Addr} {c : Nat} {w : World} (E : EnvS w) (h : 2048 < s.size ∨ 300 < bl.length) : Calls Tryz.prog 4 #[.string s, .slice A bl.length c] w fun e w' => e = .returned (.bool true) ∧ Below w.heap.size w w' := by
 have HWK := qh (works_all E)
 clear E
 by_cases h1 : 2048 < s.size
 ·have x0 : (2048 : Int) < (s.size : Int) := by omega
  clear h
  go_enter Tryz.func4, Tryz.ntmps4
  go_wp2_with fail
  refine HWK.out.mono ?_
  rintro e w1 ⟨rfl, hb⟩
  have HB := qh hb
  clear hb
  go_wp2
  go_ret
  exact ⟨rfl, HB.out⟩
 ·have x0 : ¬ (2048 : Int) < (s.size : Int) := by omega
  have x0b : decide ((2048 : Int) < (s.size : Int)) = false := decide_eq_false x0
  have x1 : (300 : Int) < (bl.length : Int) := by omega
  clear h
  go_enter Tryz.func4, Tryz.ntmps4
  go_wp2_with fail
  refine HWK.out.mono ?_
  rintro e w1 ⟨rfl, hb⟩
  have HB := qh hb
  clear hb
  go_wp2
  go_ret
  exact ⟨rfl, HB.out⟩
theorem kind_at {s : List UInt8} {l : List Lx.Tok} (h : Src s l) {i : Nat} (hi : i + 1 < l.length) : (l[i]'(by omega)).1.kind ≠ 0 := by
 have hr := h.real
 have hlen : l.length = (real l).length + 1 := by have := congrArg List.length hr; simpa using this
 have e : (l.map (·.1))[i]'(by rw [List.length_map]; omega) = (real l)[i]'(by omega) := by
  simp only [hr]
  rw [List.getElem_append_left]
 rw [List.getElem_map] at e
 rw [e]
 have hm : (real l)[i]'(by omega) ∈ real l := List.getElem_mem _
 obtain ⟨t, ht, e2⟩ := List.mem_map.1 hm
 rw [← e2]
 have := (List.mem_filter.1 ht).2
 simpa using this
abbrev blkO : Obj := .cells #[.string ⟨#[32]⟩, .string ⟨#[10]⟩, .string ⟨#[40, 42, 32, 120, 32, 42, 41]⟩, .string ⟨#[9, 32, 40, 42, 32, 40, 42, 32, 42, 41, 32, 42, 41]⟩] 9
theorem blkO_cell (W : World) {wr : World} (hb : Below (W.alloc blkO).heap.size (W.alloc blkO) wr) (k : Nat) (hk : k < 4) : wr.cell? ⟨W.heap.size, k, none⟩ = some (.string (bt (blkL k))) := by
 rw [hb.cell (p := ⟨W.heap.size, k, none⟩) (by rw [World.size_alloc]; exact Nat.lt_succ_self _), Lx.cell_top (W := W) rfl k]
 rcases (show k = 0 ∨ k = 1 ∨ k = 2 ∨ k = 3 by omega) with rfl | rfl | rfl | rfl <;> rfl
theorem blanks_walk (s : ByteArray) {bl : List Nat} {A : Option Addr} {c : Nat} {w : World} (HB0 : BsB w A c bl) (E : EnvS w) : Calls Tryz.prog 4 #[.string s, .slice A bl.length c] w fun e w' => e = .returned (.bool true) ∧ Below w.heap.size w w' := by
 by_cases hbig : 2048 < s.size ∨ 300 < bl.length
 ·exact blanks_works s E hbig
 have x0 : ¬ (2048 : Int) < (s.size : Int) := by omega
 have x0b : decide ((2048 : Int) < (s.size : Int)) = false := decide_eq_false x0
 have x1 : ¬ (300 : Int) < (bl.length : Int) := by omega
 have hs2 : s.size ≤ 2048 := by omega
 have hbl : bl.length ≤ 300 := by omega
 have HBS := qh HB0
 have HE := qh E
 have HS := qh (Lx.rScan_any s (by omega) w)
 have HRD := qh (fun (l : List Lx.Tok) (h : scanL s.data.toList = .ok l) (g : Nat) (hg : l.length < g) (w : World) (E : EnvS w) => Read_all s E h hg)
 have HSR := qh (fun l (h : scanL s.data.toList = .ok l) => src_of h)
 have hsl : s.data.toList.length = s.size := by simp
 clear HB0 E hbig
 generalize hsrc : s.data.toList = src at *
 clear hsrc
 go_enter Tryz.func4, Tryz.ntmps4
 go_wp2_with fail
 refine HS.out.mono ?_
 rintro e w1 h1
 cases hsc : scanL src with
 | error ik =>
   obtain ⟨i, k⟩ := ik
   rw [hsc] at h1
   obtain ⟨rfl, hb1⟩ := h1
   have HB1 := qh hb1
   have HWK := qh (works_all (HE.out.below (Nat.le_refl _) HB1.out))
   have k0 : ((k : Int) != 0) = true := by
    have := Lx.scanL_err hsc
    simp only [bne_iff_ne, ne_eq]
    omega
   clear hb1 hsc
   go_wp2_with fail
   refine HWK.out.mono ?_
   rintro e w2 ⟨rfl, hb2⟩
   have HB2 := qh (HB1.out.trans (hb2.mono HB1.out.size))
   clear hb2
   go_wp2
   go_ret
   exact ⟨rfl, HB2.out⟩
 | ok l =>
   rw [hsc] at h1
   obtain ⟨g1, c1, rfl, hr1, hb1⟩ := h1
   have HB1 := qh hb1
   have HR1 := qh (own_reads (src := src) hr1)
   have HSC := qh (HSR.out l hsc)
   have HRD := qh (HRD.out l hsc)
   have hln : l.length ≤ 2049 := by have := HSC.out.len; omega
   have hl1 : 1 ≤ l.length := by
    have := congrArg List.length HSC.out.real
    simp only [List.length_map, List.length_append, List.length_singleton] at this
    omega
   have hal := (Below.refl w1.heap.size w1).alloc (Nat.le_refl _) blkO
   have HBT := qh (HB1.out.trans (hal.mono HB1.out.size))
   have HTP := qh (fun (wr : World) (hb : Below (w1.alloc blkO).heap.size (w1.alloc blkO) wr) (k : Nat) (hk : k < 4) => blkO_cell w1 hb k hk)
   have HR1b := qh (Lx.Reads.rowBelow (src := src) HR1.out hal)
   clear hal hr1 hb1 HS HSR HR1
   go_wp2_with fail
   clear hsc
   generalize w1.alloc blkO = wB at *
   clear x0 x0b x1
   go_loopg [9, 10] l.length (fun gh sv si wr => ∃ (i : Nat) (tb : ByteArray), sv = .string tb ∧ si = .int .i64 (i : Nat) ∧ i + 1 ≤ l.length ∧ l.length - i ≤ gh ∧ Hid (tb = bt (accB bl l i)) ∧ Hid (Below wB.heap.size wB wr))
   case atStart => exact ⟨0, ⟨#[]⟩, rfl, rfl, by omega, by omega, qh rfl, qh (Below.refl _ _)⟩
   case round =>
    obtain ⟨i, tb, rfl, rfl, hi1, hi2, htb, hb⟩ := hrel
    have htl0 := text_len bl HSC.out i (by omega)
    have htbs : tb.size ≤ 40000 := by rw [htb.out, bt_size]; omega
    clear htl0
    by_cases hi : i + 1 < l.length
    ·have x2 : (i : Int) < (l.length : Int) - 1 := by omega
     have hil : i < l.length := by omega
     have HBD := qh (hb.out.trans (((Below.refl wr.heap.size wr).drew).mono hb.out.size))
     obtain ⟨b1, o1, e1, l1, p0, p1, p2, p3, p4⟩ := tok_spot ((HR1b.out.below HBD.out).more HBD.out.size) hil
     have hstep := accB_step bl hil
     have hmem := List.getElem_mem hil
     have hts := le_sum (fun t => (txt t.1).length + 1) l _ hmem
     have hsm2 := HSC.out.sum
     have h0 := kind_at HSC.out hi
     have htl : (txt l[i].1).length ≤ 10000 := by omega
     have HOK := qh (rText_ok ((HSC.out.ok _ hmem h0).toR (by omega)))
     injection e1 with e1
     injection e1 with e1 e2 e3
     subst e1
     subst e2
     simp only [Nat.zero_add] at p0 p1 p2 p3 p4
     unfold Pl.C at p1 p2
     have HST := qh hstep
     clear hstep hts hsm2 hmem
     generalize hti : l[i] = ti at *
     obtain ⟨⟨tk, tt, tn⟩, ia, ib⟩ := ti
     dsimp only at p0 p1 p2 p3 p4 HOK htl h0
     clear hti
     have HTX := qh (HOK.out (at_ src ia) (at_ src ib))
     simp only [Lx.Tk.val, Lx.Tk.vals, Pl.C] at HTX
     have HAD := qh (show addB bl (⟨tk, tt, tn⟩, ia, ib) i = txt ⟨tk, tt, tn⟩ ++ blkL (kf bl i) by unfold addB; rw [if_neg h0])
     have hk4 := kf_lt bl i
     have hbk := blk_len hk4
     have htz : (bt (txt ⟨tk, tt, tn⟩)).size ≤ 10000 := by rw [bt_size]; exact htl
     have hbz : (bt (blkL (kf bl i))).size ≤ 13 := by rw [bt_size]; exact hbk
     have z1 : ¬ 9223372036854775807 < tb.size + (bt (txt ⟨tk, tt, tn⟩)).size := by omega
     have z2 : ¬ 9223372036854775807 < tb.size + (bt (txt ⟨tk, tt, tn⟩)).size + (bt (blkL (kf bl i))).size := by omega
     clear hbk htl HOK
     have hc := HTP.out wr.drew HBD.out (kf bl i) hk4
     have HTP3 := qh (fun (w3 : World) (hb : Below wB.heap.size wB w3) => HTP.out w3 hb (kf bl i) hk4)
     have HN := qh (show tb ++ bt (txt ⟨tk, tt, tn⟩) ++ bt (blkL (kf bl i)) = bt (accB bl l (i + 1)) by
      rw [HST.out, HAD.out, htb.out]; apply Lx.bytes_ext; simp [bt])
     by_cases hib : i < bl.length
     ·have hkv : kf bl i = bl[i] % 4 := by unfold kf; rw [dif_pos hib]
      obtain ⟨b2, o2, u2, eA, l2, hu2, q0⟩ := ((HBS.out.at_.below (HBT.out.trans (hb.out.mono HBT.out.size)))).spot hib
      rw [List.getElem?_map, List.getElem?_eq_getElem hib] at hu2
      have hu2 := Option.some.inj hu2
      subst hu2
      have hsm := HBS.out.small _ (List.getElem_mem hib)
      subst eA
      generalize kf bl i = k at *
      generalize bl[i] = y at *
      have t1 : (y : Int).tmod 4 = (k : Nat) := by rw [hkv]; rfl
      have t2 : (y : Int) % 4 = (k : Nat) := by omega
      have x3 : (i : Int) < (bl.length : Int) := by omega
      have x4 : (0 : Int) ≤ (k : Int) := by omega
      have x5 : (k : Int) < 4 := by omega
      have HHV := qh hkv
      clear hkv hib
      go_wp2_with fail
      go_region_law (first
       | (go_simp; go_at_call 12; (with_reducible refine (HTX.out _).mono ?_); rintro e w3 ⟨rfl, hb3⟩; have HB3 := qh (HBD.out.trans (hb3.mono HBD.out.size)); have hc3 := HTP3.out w3 HB3.out))
      all_goals
       go_wp2
       go_roundg (l.length - i - 1)
       case rel => exact ⟨i + 1, _, rfl, by rfl, by omega, by omega, HN, HB3⟩
       case measure => omega
     ·have hkv : kf bl i = 0 := by unfold kf; rw [dif_neg hib]
      rw [hkv] at hc z2 hbz HTP3 HN
      have x3 : ¬ (i : Int) < (bl.length : Int) := by omega
      clear hkv hib
      go_wp2_with fail
      go_region_law (first
       | (go_simp; go_at_call 12; (with_reducible refine (HTX.out _).mono ?_); rintro e w3 ⟨rfl, hb3⟩; have HB3 := qh (HBD.out.trans (hb3.mono HBD.out.size)); have hc3 := HTP3.out w3 HB3.out))
      all_goals
       go_wp2
       go_roundg (l.length - i - 1)
       case rel => exact ⟨i + 1, _, rfl, by rfl, by omega, by omega, HN, HB3⟩
       case measure => omega
    ·have x2 : ¬ (i : Int) < (l.length : Int) - 1 := by omega
     have hie : i = l.length - 1 := by omega
     have HBR := qh (HBT.out.trans (hb.out.mono HBT.out.size))
     have HLX := qh (show lex tb.data.toList = some (real l) by
      rw [htb.out, show (bt (accB bl l i)).data.toList = accB bl l i by simp [bt], hie]
      exact text_lex bl HSC.out)
     have hsz : tb.data.toList.length = tb.size := by simp
     clear hie
     by_cases h16 : tb.size ≤ 16384
     ·obtain ⟨m, hm, hmm⟩ := Lx.scan_of_lex HLX.out (by omega)
      have hmm2 : m.map (·.1) = l.map (·.1) := by rw [hmm, HSC.out.real]
      have hml : m.length = l.length := by have := congrArg List.length hmm2; simpa using this
      have HBO := both_any (l.length + 1) (alk_rows (s := src) (t := tb.data.toList) hmm2) (by rw [rowT_len]; omega)
      have HR2 := qh (fun (w : World) (E : EnvS w) => Read_all tb E hm (g := l.length + 1) (by omega))
      clear hm hmm hmm2
      rcases HBO with ⟨x, y, j, e1, e2, hs, hc⟩ | ⟨k, e1, e2⟩
      ·have d1 := HRD.out (l.length + 1) (by omega) wr (HE.out.below (Nat.le_refl _) HBR.out)
       rw [e1] at d1
       rw [e2] at HR2
       have D1 := qh d1
       have HS := qh (And.intro hs hc)
       clear d1 e1 e2 hs hc
       go_wp2_with fail
       ((with_reducible refine D1.out.mono ?_); rintro e w4 ⟨b4, rfl, hr4, hb4⟩)
       have HB4 := qh (HBR.out.trans (hb4.mono HBR.out.size))
       have HR4 := qh hr4
       have D2 := qh (HR2.out w4 (HE.out.below (Nat.le_refl _) HB4.out))
       clear hr4 hb4 D1 HR2
       go_wp2_with fail
       ((with_reducible refine D2.out.mono ?_); rintro e w5 ⟨b5, rfl, hr5, hb5⟩)
       have HB5 := qh (HB4.out.trans (hb5.mono HB4.out.size))
       have D3 := qh (Tr.rsame_any _ _ _ _ _ _ _ w5 (Nat.le_refl _) HS.out.2 (HR4.out.below hb5).rep hr5.rep)
       have HWK := qh (fun (w : World) (E : EnvS w) => works_all E)
       clear hr5 hb5 D2
       go_wp2_with fail
       ((with_reducible refine D3.out.mono ?_); rintro e w6 ⟨rfl, m6, rfl⟩)
       rw [HS.out.1]
       have HB6 := qh (Lx.below_drewN HB5.out m6)
       have D4 := qh (HWK.out _ (HE.out.below (Nat.le_refl _) HB6.out))
       clear D3
       go_wp2_with fail
       ((with_reducible refine D4.out.mono ?_); rintro e w7 ⟨rfl, hb7⟩)
       have HB7 := qh (HB6.out.trans (hb7.mono HB6.out.size))
       clear hb7
       go_wp2
       go_ret
       exact ⟨rfl, HB7.out⟩
      ·have d1 := HRD.out (l.length + 1) (by omega) wr (HE.out.below (Nat.le_refl _) HBR.out)
       rw [e1] at d1
       rw [e2] at HR2
       have D1 := qh d1
       clear d1 e1 e2
       go_wp2_with fail
       ((with_reducible refine D1.out.mono ?_); rintro e w4 ⟨rfl, hb4⟩)
       have HB4 := qh (HBR.out.trans (hb4.mono HBR.out.size))
       have D2 := qh (HR2.out w4 (HE.out.below (Nat.le_refl _) HB4.out))
       clear hb4 D1 HR2
       go_wp2_with fail
       ((with_reducible refine D2.out.mono ?_); rintro e w5 ⟨rfl, hb5⟩)
       have HB5 := qh (HB4.out.trans (hb5.mono HB4.out.size))
       have D3 := qh (same_nil w5)
       have HWK := qh (fun (w : World) (E : EnvS w) => works_all E)
       clear hb5 D2
       go_wp2_with fail
       ((with_reducible refine D3.out.mono ?_); rintro e w6 ⟨rfl, hb6⟩)
       have HB6 := qh (HB5.out.trans (hb6.mono HB5.out.size))
       have D4 := qh (HWK.out _ (HE.out.below (Nat.le_refl _) HB6.out))
       clear D3 hb6
       go_wp2_with fail
       ((with_reducible refine D4.out.mono ?_); rintro e w7 ⟨rfl, hb7⟩)
       have HB7 := qh (HB6.out.trans (hb7.mono HB6.out.size))
       clear hb7
       go_wp2
       go_ret
       exact ⟨rfl, HB7.out⟩
     ·have hm : scanL tb.data.toList = .error (0, 5) := by unfold scanL; rw [if_pos (by omega)]
      have HR2 := qh (fun (w : World) (E : EnvS w) => Read_err tb E (by omega) hm)
      have HWK := qh (fun (w : World) (E : EnvS w) => works_all E)
      have d1 := HRD.out (l.length + 1) (by omega) wr (HE.out.below (Nat.le_refl _) HBR.out)
      clear hm
      cases e1 : parseU (l.length + 1) (rowT src l) 0 with
      | ok r =>
        obtain ⟨x, j⟩ := r
        rw [e1] at d1
        have D1 := qh d1
        clear d1 e1
        go_wp2_with fail
        ((with_reducible refine D1.out.mono ?_); rintro e w4 ⟨b4, rfl, hr4, hb4⟩)
        have HB4 := qh (HBR.out.trans (hb4.mono HBR.out.size))
        have D2 := qh (HR2.out w4 (HE.out.below (Nat.le_refl _) HB4.out))
        clear hr4 hb4 D1 HR2
        go_wp2_with fail
        ((with_reducible refine D2.out.mono ?_); rintro e w5 ⟨a5, b5, rfl, hb5⟩)
        have HB5 := qh (HB4.out.trans (hb5.mono HB4.out.size))
        have D4 := qh (HWK.out _ (HE.out.below (Nat.le_refl _) HB5.out))
        clear hb5 D2
        go_wp2_with fail
        ((with_reducible refine D4.out.mono ?_); rintro e w7 ⟨rfl, hb7⟩)
        have HB7 := qh (HB5.out.trans (hb7.mono HB5.out.size))
        clear hb7
        go_wp2
        go_ret
        exact ⟨rfl, HB7.out⟩
      | error k =>
        rw [e1] at d1
        have D1 := qh d1
        clear d1 e1
        go_wp2_with fail
        ((with_reducible refine D1.out.mono ?_); rintro e w4 ⟨rfl, hb4⟩)
        have HB4 := qh (HBR.out.trans (hb4.mono HBR.out.size))
        have D2 := qh (HR2.out w4 (HE.out.below (Nat.le_refl _) HB4.out))
        clear hb4 D1 HR2
        go_wp2_with fail
        ((with_reducible refine D2.out.mono ?_); rintro e w5 ⟨a5, b5, rfl, hb5⟩)
        have HB5 := qh (HB4.out.trans (hb5.mono HB4.out.size))
        have D4 := qh (HWK.out _ (HE.out.below (Nat.le_refl _) HB5.out))
        clear hb5 D2
        go_wp2_with fail
        ((with_reducible refine D4.out.mono ?_); rintro e w7 ⟨rfl, hb7⟩)
        have HB7 := qh (HB5.out.trans (hb7.mono HB5.out.size))
        clear hb7
        go_wp2
        go_ret
        exact ⟨rfl, HB7.out⟩
end Go.Proofs.YtkemhmfdooghkaaGreatDoor.Un
namespace Go.Proofs.YtkemhmfdooghkaaGreatDoor.Un
open Go.RowKit
open Lx (EnvS)
theorem gSyn : Tryz.prog.globalNamed "strconv.ErrSyntax" = some 0 := by kernel_rfl
theorem gSynType : (Tryz.prog.globals[0]?).map (·.type) = some 128 := by kernel_rfl
theorem gRan : Tryz.prog.globalNamed "strconv.ErrRange" = some 1 := by kernel_rfl
theorem gRanType : (Tryz.prog.globals[1]?).map (·.type) = some 128 := by kernel_rfl
theorem cellsErr : Tryz.prog.cellsOf 171 = 1 := by kernel_rfl
theorem cellsStr : Tryz.prog.cellsOf 9 = 1 := by kernel_rfl
theorem star : "*" ++ "errors.errorString" = "*errors.errorString" := by decide
theorem rowErr (u : TypeId) (h : Tryz.prog.typeName? 3 u = some "*errors.errorString") : u = 169 :=
 typeName_ptr_named (nm := "errors.errorString") (by rw [star]; kernel_rfl) (by kernel_rfl) (by decide) u (by rw [star]; exact h)
theorem cell_of_var {P : Program} {w : World} {name : String} {g : Nat} {v : Value} (hg : P.globalNamed name = some g) (h : w.var? P name = some #[v]) : w.cell? ⟨g, 0, none⟩ = some v := by
 unfold World.var? at h
 rw [hg] at h
 simp only [Option.bind_some] at h
 unfold World.cell?
 split at h
 ·rename_i cs t fz hb
  injection h with h
  subst h
  rw [hb]
  rfl
 ·cases h
theorem envS {W : World} (h : laidMetH Tryz.prog Rows.unitBlanksRow.laid W) (hS : W.ShapedOpen Tryz.prog) : EnvS W := by
 have h' : laidMet Tryz.prog [("math/bits.deBruijn32tab", Rows.laid_math_bits_deBruijn32tab), ("math/bits.deBruijn64tab", Rows.laid_math_bits_deBruijn64tab), ("internal/strconv.uint64pow10", Rows.laid_internal_strconv_uint64pow10), ("strconv.ErrRange", Rows.laid_strconv_ErrRange), ("strconv.ErrSyntax", Rows.laid_strconv_ErrSyntax)] W := h
 have h3 := h'.tail.tail
 obtain ⟨a, s, ha, _⟩ := laid_sentinel h3.tail gRan gRanType Tryz.underlying128 rowErr Tryz.underlying169 Tryz.underlying171 rfl rfl Tryz.underlying9 cellsErr cellsStr
 obtain ⟨b, s', hb, _⟩ := laid_sentinel h3.tail.tail gSyn gSynType Tryz.underlying128 rowErr Tryz.underlying169 Tryz.underlying171 rfl rfl Tryz.underlying9 cellsErr cellsStr
 exact ⟨Tryz.laysM144.s1_3 W hS, ⟨_, _, cell_of_var gSyn hb⟩, ⟨_, _, cell_of_var gRan ha⟩⟩
def litCells : DataW Unit → Array Value
 | .agg l => (l.map fun | .lit (.int k z) => Value.int k z | _ => .bool false).toArray
 | _ => #[]
def put (cs : Array Value) : Obj → Obj
 | .cells _ t frozen => .cells cs t frozen
 | o => o
noncomputable def low : Nat := (World.holding Tryz.prog default ⟨#[], #[], []⟩).heap.size
def dtxt : DataW Unit → ByteArray
 | .iface _ (.ptr (.agg [.lit (.string l)])) => ⟨l.toArray⟩
 | _ => ⟨#[]⟩
noncomputable def witBlocks : Array Obj := #[.cells #[.string (dtxt Rows.laid_strconv_ErrSyntax)] 171, .cells #[.string (dtxt Rows.laid_strconv_ErrRange)] 171]
noncomputable def laidWorld (os : Os) : World :=
 { World.holding Tryz.prog os ⟨witBlocks, #[], []⟩ with heap := (((((World.holding Tryz.prog os ⟨witBlocks, #[], []⟩).heap.modify 0 (put #[.iface 169 (.pointer (some ⟨low, 0, none⟩))])).modify 1 (put #[.iface 169 (.pointer (some ⟨low + 1, 0, none⟩))])).modify 3 (put (litCells Rows.laid_internal_strconv_uint64pow10))).modify 4 (put (litCells Rows.laid_math_bits_deBruijn32tab))).modify 5 (put (litCells Rows.laid_math_bits_deBruijn64tab)) }
theorem laid_met (os : Os) (args : Array Value) : laidMet Tryz.prog Rows.unitBlanksRow.laid ((laidWorld os).forCall (fun _ _ => 0) ⟨#[], args, []⟩).memory :=
 laidMet_of_run' 8 (by kernel_rfl) (by kernel_rfl)
end Go.Proofs.YtkemhmfdooghkaaGreatDoor.Un
namespace Go.Proofs.YtkemhmfdooghkaaGreatDoor.Un
open Go.RowKit Go.ChangeShapes Go.WideShapes
theorem bnd_u8 {n : Int} (h : (Lit.int .u8 n).wf = true) : 0 ≤ n ∧ n < 256 := by
 have := bounds_u8 h
 omega
theorem open_bytes {H : Type} {enc : TypeId × Value → H} {W : World} {v : Value} {d : DataW H} {p : List MemPlace} (h : DataW.Trod enc Tryz.prog W 0 (fun _ => true) true 22 v d p) (hone1 : ∃ A n c, v = .slice A n c) :
 ∃ A c l, v = .slice A l.length c ∧ BsB W A c l := by
 obtain ⟨A0, n0, c0, rfl⟩ := hone1
 obtain ⟨fuel, hf⟩ := h
 rcases open_ints Tryz.underlying22 Tryz.underlying5 (by kernel_rfl) hf with ⟨hcs, _⟩ | ⟨a, n, c, zs, hcs, _, hl, hm, hz, _, hcell, hwz⟩
 ·simp [Value.cells] at hcs
  obtain ⟨rfl, rfl, rfl⟩ := hcs
  exact ⟨none, 0, [], rfl, ⟨by simp, fun h => absurd h (by simp)⟩, fun x hx => by simp at hx, by simp⟩
 ·simp [Value.cells] at hcs
  obtain ⟨rfl, rfl, rfl⟩ := hcs
  rw [if_pos rfl] at hz
  have hbn : ∀ z ∈ zs, 0 ≤ z ∧ z < 256 := fun z hz => bnd_u8 (hwz z hz)
  have hll : ((zs.take n0).map Int.toNat).length = n0 := by rw [List.length_map, List.length_take]; omega
  refine ⟨some a, c0, (zs.take n0).map Int.toNat, by rw [hll], ⟨by simp, fun h0 => ?_⟩, ?_, by rw [hll]; unfold maxLen at hm; omega⟩
  ·rw [hll] at h0
   refine ⟨a, rfl, ?_, fun j u hu => ?_⟩
   ·have := World.block_lt_of_cell? W _ (hcell 0 (by omega))
    rwa [block_of_add] at this
   ·have hj : j < n0 := by
     have := (List.getElem?_eq_some_iff.1 hu).1
     rw [List.length_map, hll] at this; exact this
    have hjz : j < zs.length := by omega
    rw [hcell j hjz, ← hu]
    rw [List.getElem?_map, List.getElem?_map, List.getElem?_take, if_pos hj, List.getElem?_eq_getElem hjz, List.getD_eq_getElem?_getD, List.getElem?_eq_getElem hjz]
    have := hbn zs[j] (List.getElem_mem _)
    simp only [Option.map_some, Option.getD_some]
    rw [Int.toNat_of_nonneg this.1]
  ·intro x hx
   obtain ⟨z, hz2, rfl⟩ := List.mem_map.1 hx
   have := hbn z (List.mem_of_mem_take hz2)
   omega
end Go.Proofs.YtkemhmfdooghkaaGreatDoor.Un
