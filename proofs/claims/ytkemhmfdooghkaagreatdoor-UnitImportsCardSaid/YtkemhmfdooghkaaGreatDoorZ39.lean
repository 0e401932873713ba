/- A part of the proof: N12, N13, N14, C1. -/
import Derived.Test.YtkemhmfdooghkaaGreatDoorZ1
import Derived.Test.YtkemhmfdooghkaaGreatDoorZ38
import Derived.Test.YtkemhmfdooghkaaGreatDoorZ24
import Derived.Deep.LoopGhost
import Derived.Test.YtkemhmfdooghkaaGreatDoorZ4
import Derived.MapKept
import Derived.Maps.RangeRun
set_option linter.unusedSimpArgs false
set_option linter.unusedVariables false

section
namespace Go.Proofs.YtkemhmfdooghkaaGreatDoor.Un
open Go.RowKit
open Tr (Nd Fo RepS RepN Rep cellsN)
open Lx (Tk noTk Blk)
open Ex
def unF : Fo → List T1
 | .no => []
 | .node d k r => (d, k) :: unF r
theorem unF_forest : ∀ l : List T1, unF (forest l) = l
 | [] => by unfold forest; rfl
 | x :: l => by
   show unF (.node x.1 x.2 (forest l)) = _
   unfold unF
   rw [unF_forest l]
theorem rep_len {S : Nat → Prop} {w : World} : ∀ {f : Fo} {vs : List Value}, RepS S w f vs → vs.length = (unF f).length
 | .no, vs, h => by unfold RepS at h; subst h; rfl
 | .node d k r, vs, h => by
   unfold RepS at h
   obtain ⟨b, A, c, ks, vs', rfl, _, _, _, _, _, h7⟩ := h
   unfold unF
   simp only [List.length_cons, rep_len h7]
theorem rep_get {S : Nat → Prop} {w : World} : ∀ {f : Fo} {vs : List Value}, RepS S w f vs → ∀ (i : Nat) (hi : i < (unF f).length), ∃ b, vs[i]? = some (.pointer (some ⟨b, 0, none⟩)) ∧ RepS S w (.node ((unF f)[i]).1 ((unF f)[i]).2 .no) [.pointer (some ⟨b, 0, none⟩)]
 | .no, vs, h, i, hi => by unfold unF at hi; simp at hi
 | .node d k r, vs, h, i, hi => by
   unfold RepS at h
   obtain ⟨b, A, c, ks, vs', rfl, h2, h3, h4, h5, h6, h7⟩ := h
   cases i with
   | zero =>
     refine ⟨b, rfl, ?_⟩
     show RepS S w (.node d k .no) _
     unfold RepS
     exact ⟨b, A, c, ks, [], rfl, h2, h3, h4, h5, h6, by unfold RepS; rfl⟩
   | succ i =>
     unfold unF at hi
     obtain ⟨b', g1, g2⟩ := rep_get h7 i (by simpa using hi)
     exact ⟨b', by simpa using g1, g2⟩
theorem node_at {S : Nat → Prop} {w : World} {d : Nd} {f : Fo} {b : Nat} (h : RepS S w (.node d f .no) [.pointer (some ⟨b, 0, none⟩)]) :
 ∃ A c, b < w.heap.size ∧ w.cell? ⟨b, 0, none⟩ = some (.int .u8 d.kind) ∧ w.cell? ⟨b, 2, none⟩ = some (.string d.name) ∧ w.cell? ⟨b, 4, none⟩ = some (.slice A (unF f).length c) ∧
  ∀ i (hi : i < (unF f).length), ∃ g off bi, A = some ⟨g, off, none⟩ ∧ w.cell? ⟨g, off + i, none⟩ = some (.pointer (some ⟨bi, 0, none⟩)) ∧ RepS S w (.node ((unF f)[i]).1 ((unF f)[i]).2 .no) [.pointer (some ⟨bi, 0, none⟩)] := by
 unfold RepS at h
 obtain ⟨b', A, c, ks, vs', e, h2, ⟨h30, h31, h32, h33, h34⟩, h4, h5, h6, h7⟩ := h
 injection e with e _
 injection e with e
 injection e with e
 injection e with e
 subst e
 have hl := rep_len h6
 refine ⟨A, c, Tr.cell_lt h30, h30, h32, by rw [← hl]; exact h34, fun i hi => ?_⟩
 obtain ⟨g, off, rfl, _, _⟩ := h4 (by omega)
 obtain ⟨bi, q1, q2⟩ := rep_get h6 i hi
 obtain ⟨ad, e2, _, hc⟩ := h5.2 (by omega)
 injection e2 with e2
 subst e2
 refine ⟨g, off, bi, rfl, ?_, q2⟩
 have := hc i _ q1
 rwa [show (⟨g, off, none⟩ : Addr).add i = ⟨g, off + i, none⟩ by unfold Addr.add; split <;> simp_all] at this
def nmsK (acc : List ByteArray) (l : List T1) : List ByteArray := l.foldl (fun a x => addU a x.1.name) acc
def impK (acc : List ByteArray) (k : T1) : List ByteArray := if k.1.kind = 54 then addU acc k.1.name else if k.1.kind = 53 then nmsK acc (unF k.2) else acc
def impsL (acc : List ByteArray) (l : List T1) : List ByteArray := l.foldl impK acc
theorem car {w wr : World} {a : Addr} {v : Value} (hB : Below w.heap.size w wr) (h : w.cell? a = some v) : wr.cell? a = some v := (hB.cell (World.block_lt_of_cell? w _ h)).trans h
set_option maxRecDepth 100000 in set_option maxHeartbeats 6400000 in
theorem Imports_any {w : World} {d : Nd} {l : List T1} {b : Nat} (h : RepS (fun _ => True) w (.node d (forest l) .no) [.pointer (some ⟨b, 0, none⟩)]) (hk1 : 50 ≤ d.kind) (hk2 : d.kind ≤ 52) (hl : l.length ≤ 1000) (hkk : ∀ k ∈ l, k.1.kind = 53 → (unF k.2).length ≤ 100) :
 Calls Tryz.prog 15 #[.pointer (some ⟨b, 0, none⟩)] w fun e w' => ∃ lv, e = .returned lv ∧ OwnB (w.heap.size + 1) w' lv (impsL [] l) ∧ Below w.heap.size w w' := by
 obtain ⟨A, c, hb, z0, z2, z4, hks⟩ := node_at h
 rw [unF_forest] at z4
 have HKS := qh (fun (i : Nat) (hi : i < l.length) => show ∃ g off bi, A = some ⟨g, off, none⟩ ∧ w.cell? ⟨g, off + i, none⟩ = some (.pointer (some ⟨bi, 0, none⟩)) ∧ RepS (fun _ => True) w (.node (l[i]).1 (l[i]).2 .no) [.pointer (some ⟨bi, 0, none⟩)] from by
  obtain ⟨g, off, bi, e1, e2, e3⟩ := hks i (by rw [unF_forest]; exact hi)
  simp only [unF_forest] at e3
  exact ⟨g, off, bi, e1, e2, e3⟩)
 have HKK := qh hkk
 have x1 : ¬ ((d.kind : Int) < 50) := by omega
 have x2 : ¬ (52 < (d.kind : Int)) := by omega
 have hmf : ∀ (fn : Fn) (first cap : Array Value) (w : World), (Instr.makeFunc fn first cap).run Tryz.prog w = .ok (.func fn first cap) w := fun _ _ _ _ => rfl
 have HNI : Hid (NI w.heap.size (w.alloc (.cells #[.slice none 0 0] 44)) []) := qh ⟨⟨_, Blk.new w 44 #[.slice none 0 0], OwnB.nil⟩⟩
 have HB := qh (show Below w.heap.size w (w.alloc (.cells #[.slice none 0 0] 44)) from (Below.refl _ _).alloc (Nat.le_refl _) _)
 clear h hks hkk z2
 go_enter Tryz.func15, Tryz.ntmps15
 go_wp2_with fail
 go_loopg [30] l.length (fun gh iv wr => ∃ (i : Nat) (acc : List ByteArray), iv = .int .i64 (i : Nat) ∧ i ≤ l.length ∧ l.length - i ≤ gh ∧ acc.length ≤ 100 * i ∧ Hid (impsL [] l = impsL acc (l.drop i)) ∧ Hid (NI w.heap.size wr acc) ∧ Hid (Below w.heap.size w wr))
 case atStart => exact ⟨0, [], rfl, by omega, by omega, by simp, qh rfl, HNI, HB⟩
 case round =>
  clear HNI HB
  obtain ⟨i, acc, rfl, hi, hgh, hac, HS, HN, HB⟩ := hrel
  have hmb : w.heap.size < wr.heap.size := by obtain ⟨lv, h1, _⟩ := HN.out.at_; exact h1.lt
  by_cases hlt : i < l.length
  ·have x3 : (i : Int) < (l.length : Int) := by omega
   obtain ⟨g, off, bi, rfl, zr, HR⟩ := HKS.out i hlt
   obtain ⟨A2, c2, hbi, q0, q2, q4, hgs⟩ := node_at HR
   replace zr := car HB.out zr
   replace q0 := car HB.out q0
   replace q2 := car HB.out q2
   replace q4 := car HB.out q4
   have hbi' : bi < wr.heap.size := Nat.lt_of_lt_of_le hbi HB.out.size
   have HS := qh (show impsL [] l = impsL (impK acc l[i]) (l.drop (i + 1)) from HS.out.trans (by rw [List.drop_eq_getElem_cons hlt]; rfl))
   have hk3 := HKK.out l[i] (List.getElem_mem hlt)
   have HGS := qh hgs
   clear HR hgs
   generalize l[i] = k at *
   obtain ⟨⟨kk, kp, kn, km⟩, kf⟩ := k
   simp only at q0 q2 q4 hk3
   by_cases h54 : kk = 54
   ·have h54' : (kk : Int) = 54 := by omega
    have HS := qh (show impsL [] l = impsL (addU acc kn) (l.drop (i + 1)) from HS.out.trans (by unfold impK; rw [if_pos h54]))
    have D1 := qh (add_any HN.out (by omega) kn)
    have hal := addU_len acc kn
    clear hk3 HGS
    go_wp2_with fail
    ((with_reducible refine D1.out.mono ?_); rintro e wx ⟨rfl, hn, hb⟩)
    have HN := qh hn
    have HB := qh (HB.out.trans hb)
    clear hn hb D1
    go_wp2
    go_roundg (l.length - i - 1)
    case rel => exact ⟨i + 1, _, by rfl, by omega, by omega, by omega, HS, HN, HB⟩
    case measure => omega
   ·have h54' : ¬ (kk : Int) = 54 := by omega
    by_cases h53 : kk = 53
    ·have h53' : (kk : Int) = 53 := by omega
     have HS := qh (show impsL [] l = impsL (nmsK acc (unF kf)) (l.drop (i + 1)) from HS.out.trans (by unfold impK; rw [if_neg h54, if_pos h53]))
     have hkf := hk3 h53
     clear hk3
     go_wp2_with fail
     go_loopg [53] (unF kf).length (fun gh2 jv wq => ∃ (j : Nat) (acc2 : List ByteArray), jv = .int .i64 (j : Nat) ∧ j ≤ (unF kf).length ∧ (unF kf).length - j ≤ gh2 ∧ acc2.length ≤ acc.length + j ∧ Hid (nmsK acc (unF kf) = nmsK acc2 ((unF kf).drop j)) ∧ Hid (NI w.heap.size wq acc2) ∧ Hid (Below w.heap.size w wq))
     case atStart => exact ⟨0, acc, rfl, by omega, by omega, by omega, qh rfl, HN, HB⟩
     case round =>
      clear HN HB zr q0 q2 q4
      obtain ⟨j, acc2, rfl, hj, hgh2, hac2, HS2, HN, HB⟩ := hrel
      have hmb2 : w.heap.size < wr.heap.size := by obtain ⟨lv, h1, _⟩ := HN.out.at_; exact h1.lt
      by_cases hlt2 : j < (unF kf).length
      ·have x5 : (j : Int) < ((unF kf).length : Int) := by omega
       obtain ⟨g2, off2, bj, rfl, zr, HR2⟩ := HGS.out j hlt2
       obtain ⟨A3, c3, hbj, q0, q2, q4, hgs3⟩ := node_at HR2
       replace zr := car HB.out zr
       replace q2 := car HB.out q2
       have hbj' : bj < wr.heap.size := Nat.lt_of_lt_of_le hbj HB.out.size
       have HS2 := qh (show nmsK acc (unF kf) = nmsK (addU acc2 ((unF kf)[j]).1.name) ((unF kf).drop (j + 1)) from HS2.out.trans (by rw [List.drop_eq_getElem_cons hlt2]; rfl))
       have hal := addU_len acc2 ((unF kf)[j]).1.name
       have D1 := qh (add_any HN.out (by omega) ((unF kf)[j]).1.name)
       clear HR2 hgs3 q0 q4
       generalize ((unF kf)[j]).1.name = nm at *
       go_wp2_with fail
       ((with_reducible refine D1.out.mono ?_); rintro e wx ⟨rfl, hn, hb⟩)
       have HN := qh hn
       have HB := qh (HB.out.trans hb)
       clear hn hb D1
       go_wp2
       go_roundg ((unF kf).length - j - 1)
       case rel => exact ⟨j + 1, _, by rfl, by omega, by omega, by omega, HS2, HN, HB⟩
       case measure => omega
      ·have x5 : ¬ (j : Int) < ((unF kf).length : Int) := by omega
       have hS2 := HS2.out
       rw [List.drop_eq_nil_of_le (by omega)] at hS2
       have HS := qh (show impsL [] l = impsL acc2 (l.drop (i + 1)) from by rw [HS.out, hS2]; rfl)
       clear hS2 HS2 HGS
       go_wp2
       go_roundg (l.length - i - 1)
       case rel => exact ⟨i + 1, _, by rfl, by omega, by omega, by omega, HS, HN, HB⟩
       case measure => omega
    ·have h53' : ¬ (kk : Int) = 53 := by omega
     have HS := qh (show impsL [] l = impsL acc (l.drop (i + 1)) from HS.out.trans (by unfold impK; rw [if_neg h54, if_neg h53]))
     clear hk3 HGS
     go_wp2
     go_roundg (l.length - i - 1)
     case rel => exact ⟨i + 1, _, by rfl, by omega, by omega, by omega, HS, HN, HB⟩
     case measure => omega
  ·have x3 : ¬ (i : Int) < (l.length : Int) := by omega
   have HS := qh (show impsL [] l = acc from HS.out.trans (by rw [List.drop_eq_nil_of_le (by omega)]; rfl))
   obtain ⟨lv, h1, h2⟩ := HN.out.at_
   obtain ⟨A9, c9, rfl, _⟩ := h2.form
   have m0 : wr.cell? ⟨w.heap.size, 0, none⟩ = some (.slice A9 acc.length c9) := h1.cell 0
   have f0 := h1.frozen 0
   have HO := qh h2
   clear h1 h2
   go_wp2
   have zz := World.cell?_setCell_same wr ⟨w.heap.size, 0, none⟩ (.slice A9 acc.length c9) m0
   refine bodyPost_ret (v := .slice A9 acc.length c9) (by simp [results, Tryz.results15, go_sem, zz]) rfl ?_
   refine ⟨_, rfl, ?_, HB.out.setCell (p := ⟨w.heap.size, 0, none⟩) (Nat.le_refl _) _⟩
   rw [HS.out]
   refine HO.out.kept (row := some w.heap.size) (Lx.grown_set wr w.heap.size 0 _) (.inr fun e => ?_)
   have := (World.ownsRow.lt HO.out _ e).1
   omega
end Go.Proofs.YtkemhmfdooghkaaGreatDoor.Un
end

section
namespace Go.Proofs.YtkemhmfdooghkaaGreatDoor.Un
open Go.RowKit
open Tr (Nd Fo RepS RepN Rep cellsN)
open Lx (Tk noTk Blk run_store_complexL TokAt scanL scanF flat scanEnd at_ lex EnvS)
open Fl
open Ex
open St (TkS Good2 isWd6 sEnd ret_)
attribute [local go_sem] run_store_complexL run_field1 run_field3
def okRead (s : List UInt8) (l : List Lx.Tok) : Bool :=
 !isWd6 sDefn (tk (rowT s l) 0) && !isWd6 sImpl (tk (rowT s l) 0) && (match importsR (l.length + 1) (l.length + 1) [] (rowT s l) 3 with | .ok (_, j) => decide ((tk (rowT s l) j).1.kind = 6) && decide ((tk (rowT s l) j).1.text = sEnd) | _ => true)
def chk1 (s : List UInt8) : Bool := match scanL s with
 | .ok l => okRead s l && match parseU (l.length + 1) (rowT s l) 0 with | .ok ((d, .node d0 _ .no), _) => decide (d.kind = 52) && decide (d0.kind = 45) | _ => false
 | .error _ => false
def chk2 (s : List UInt8) : Bool := match scanL s with
 | .ok l => okRead s l && match parseU (l.length + 1) (rowT s l) 0 with | .error k => decide (k < l.length) && decide ((tk (rowT s l) k).2.1 = (1, 15)) | _ => false
 | .error _ => false
abbrev wu1 : ByteArray := ⟨#[77, 79, 68, 85, 76, 69, 32, 97, 59, 32, 69, 78, 68, 32, 97, 46]⟩
abbrev wu2 : ByteArray := ⟨#[77, 79, 68, 85, 76, 69, 32, 97, 59, 32, 69, 78, 68, 32, 98, 46]⟩
theorem ck1 : chk1 wu1.data.toList = true := by decide +kernel
theorem ck2 : chk2 wu2.data.toList = true := by decide +kernel
theorem okRead_ok {s : List UInt8} {l : List Lx.Tok} (h : okRead s l = true) : isWd6 sDefn (tk (rowT s l) 0) = false ∧ isWd6 sImpl (tk (rowT s l) 0) = false ∧ ∀ a j, importsR (l.length + 1) (l.length + 1) [] (rowT s l) 3 = .ok (a, j) → AtEnd (rowT s l) j := by
 unfold okRead at h
 rw [Bool.and_eq_true, Bool.and_eq_true] at h
 obtain ⟨⟨h1, h2⟩, h3⟩ := h
 refine ⟨by simpa using h1, by simpa using h2, fun a j e => ?_⟩
 rw [e] at h3
 simpa [AtEnd] using h3
theorem read1 {w : World} (E : EnvS w) : ∃ L d d0 k0 j, d.kind = 52 ∧ d0.kind = 45 ∧ Calls Tryz.prog 13 #[.string wu1] w (ReadR w L (.ok ((d, .node d0 k0 .no), j))) := by
 have h := ck1
 unfold chk1 at h
 split at h
 ·rename_i l hl
  rw [Bool.and_eq_true] at h
  obtain ⟨h0, h⟩ := h
  obtain ⟨q1, q2, q3⟩ := okRead_ok h0
  have hll := Ex.scanL_len hl
  split at h
  ·rename_i d d0 k0 j hx
   rw [Bool.and_eq_true, decide_eq_true_iff, decide_eq_true_iff] at h
   refine ⟨rowT wu1.data.toList l, d, d0, k0, j, h.1, h.2, ?_⟩
   rw [← hx]
   exact Read_unit wu1 E hl (g := l.length) (by omega) (by omega) q1 q2 q3 (fun k e => by rw [hx] at e; cases e)
  ·cases h
 ·cases h
theorem read2 {w : World} (E : EnvS w) : Calls Tryz.prog 13 #[.string wu2] w fun e w' => e = .returned (.tuple #[.pointer none, .complex .f64 (fl 1) (fl 15), .int .i64 60]) ∧ Below w.heap.size w w' := by
 have h := ck2
 unfold chk2 at h
 split at h
 ·rename_i l hl
  rw [Bool.and_eq_true] at h
  obtain ⟨h0, h⟩ := h
  obtain ⟨q1, q2, q3⟩ := okRead_ok h0
  have hll := Ex.scanL_len hl
  split at h
  ·rename_i k hx
   rw [Bool.and_eq_true, decide_eq_true_iff, decide_eq_true_iff] at h
   have := Read_unit wu2 E hl (g := l.length) (by omega) (by omega) q1 q2 q3 (fun k' e => by rw [hx] at e; injection e with e; subst e; exact h.1)
   rw [hx] at this
   refine this.mono fun e w' ⟨h1, h2⟩ => ⟨?_, h2⟩
   rw [h1, h.2]
  ·cases h
 ·cases h
set_option maxRecDepth 100000 in set_option maxHeartbeats 6400000 in
theorem works_any {w : World} (E : EnvS w) : Calls Tryz.prog 7 #[] w fun e w' => e = .returned (.bool true) ∧ Below w.heap.size w w' := by
 obtain ⟨L, d, d0, k0, j, hd, hd0, d1⟩ := read1 E
 have D1 := qh d1
 have HE := qh E
 have HPS := qh (fun (w : World) => show Calls Tryz.prog 16 #[.agg #[.int .i64 1, .int .i64 15]] w fun e w' => e = .returned (.complex .f64 (fl 1) (fl 15)) ∧ Below w.heap.size w w' from Lx.pos_at (q := (1, 15)) rfl w)
 have sp : ((FloatKind.f64.format.order (fl 1) (fl 1) == some .eq) && (FloatKind.f64.format.order (fl 15) (fl 15) == some .eq)) = true := by
  rw [fl_order _ _ (by omega) (by omega), fl_order _ _ (by omega) (by omega)]; rfl
 clear d1 E
 go_enter Tryz.func7, Tryz.ntmps7
 go_wp2_with fail
 ((with_reducible refine D1.out.mono ?_); rintro e w1 ⟨b, rfl, hr, hb⟩)
 have HB := qh hb
 have HR := qh (hr.more (S' := fun _ => True) fun _ _ _ => trivial)
 have D2 := qh (read2 (HE.out.below (Nat.le_refl _) hb))
 clear hr hb D1
 go_wp2_with fail
 ((with_reducible refine D2.out.mono ?_); rintro e w2 ⟨rfl, hb⟩)
 have HB := qh (HB.out.trans (hb.mono HB.out.size))
 have HR := qh (HR.out.below hb)
 clear hb D2
 obtain ⟨A, c, hbl, z0, _, z4, hks⟩ := node_at HR.out
 obtain ⟨g, off, bi, rfl, zr, hr0⟩ := hks 0 (by unfold unF; simp)
 obtain ⟨_, _, hbi, y0, _, _, _⟩ := node_at hr0
 have hr0' : (unF (.node d0 k0 .no)).length = 1 := by unfold unF unF; rfl
 rw [hr0'] at z4
 rw [show ((unF (.node d0 k0 .no))[0]'(by rw [hr0']; omega)).1.kind = 45 from hd0] at y0
 rw [hd] at z0
 rw [Nat.add_zero] at zr
 have DI := qh (fun (w : World) (hr : RepS (fun _ => True) w (.node d (.node d0 k0 .no) .no) [.pointer (some ⟨b, 0, none⟩)]) => Imports_any (w := w) (d := d) (l := [(d0, k0)]) hr (by omega) (by omega) (by simp) (fun k hk e => by rw [List.mem_singleton] at hk; subst hk; rw [hd0] at e; cases e))
 clear hks hr0 hr0'
 have hI0 : impsL [] [(d0, k0)] = [] := by
  show impK [] (d0, k0) = []
  unfold impK
  rw [if_neg (by rw [hd0]; decide), if_neg (by rw [hd0]; decide)]
 have HI0 := qh hI0
 clear hI0
 go_wp2_with fail
 ((with_reducible refine (HPS.out w2).mono ?_); rintro e w3 ⟨rfl, hb⟩)
 have HB := qh (HB.out.trans (hb.mono HB.out.size))
 have HR := qh (HR.out.below hb)
 have hbl3 : b < w3.heap.size := Nat.lt_of_lt_of_le hbl hb.size
 clear hb
 go_wp2_with fail
 ((with_reducible refine (DI.out w3 HR.out).mono ?_); rintro e w4 ⟨lv, rfl, ho, hb⟩)
 have HB := qh (HB.out.trans (hb.mono HB.out.size))
 rw [HI0.out] at ho
 obtain ⟨A9, c9, rfl, _⟩ := ho.form
 clear ho hb
 go_wp2
 go_ret
 exact ⟨rfl, HB.out⟩
end Go.Proofs.YtkemhmfdooghkaaGreatDoor.Un
end

section
namespace Go.Proofs.YtkemhmfdooghkaaGreatDoor.Un
open Go.RowKit
open Tr (Nd Fo RepS RepN Rep cellsN)
open Lx (Tk noTk Blk run_store_complexL TokAt scanL scanF flat scanEnd at_ lex EnvS)
open Fl
open Ex
open St (TkS Good2 isWd6 sEnd sSem ret_)
open De (blockF defF sModule)
def one (c : UInt8) : ByteArray := ⟨#[c]⟩
def wantP (acc : List ByteArray) (ps : List Im) : List ByteArray := ps.foldl (fun a p => addU a (one p.2)) acc
theorem addU_twice (acc : List ByteArray) (x : ByteArray) : addU (addU acc x) x = addU acc x := by
 have h : hasB (addU acc x) x = true := by
  rw [hasB_iff]
  unfold addU
  split
  ·exact hasB_iff.1 (by assumption)
  ·simp
 rw [show addU (addU acc x) x = if hasB (addU acc x) x = true then addU acc x else addU acc x ++ [x] from rfl, if_pos h]
theorem imps_nodes : ∀ (l : List T1) (ps : List Im) (acc : List ByteArray), NodeL l ps → impsL acc l = wantP acc ps
 | [], [], _, _ => rfl
 | [], _ :: _, _, h => by cases h
 | _ :: _, [], _, h => by cases h
 | k :: l, p :: ps, acc, h => by
   obtain ⟨h1, h2⟩ := h
   show impsL (impK acc k) l = wantP (addU acc (one p.2)) ps
   rw [show impK acc k = addU acc (one p.2) from ?_]
   ·exact imps_nodes l ps _ h2
   unfold NodeOK at h1
   unfold impK
   split at h1
   ·rw [if_pos h1.1, h1.2]; rfl
   ·obtain ⟨hk, a, b, hf⟩ := h1
    rw [if_neg (by rw [hk]; decide), if_pos hk, hf, unF_forest]
    exact addU_twice acc (one p.2)
theorem nodes_len : ∀ (l : List T1) (ps : List Im), NodeL l ps → l.length = ps.length ∧ ∀ k ∈ l, k.1.kind = 53 → (unF k.2).length ≤ 100
 | [], [], _ => ⟨rfl, fun k h => by cases h⟩
 | [], _ :: _, h => by cases h
 | _ :: _, [], h => by cases h
 | k :: l, p :: ps, h => by
   obtain ⟨h1, h2⟩ := h
   obtain ⟨q1, q2⟩ := nodes_len l ps h2
   refine ⟨by simp [q1], fun k' hk => ?_⟩
   rcases List.mem_cons.1 hk with rfl | hk
   ·intro e
    unfold NodeOK at h1
    split at h1
    ·rw [h1.1] at e; cases e
    ·obtain ⟨_, a, b, hf⟩ := h1
     rw [hf, unF_forest]
     simp
   ·exact q2 k' hk
theorem chunkB_len (p : Im) : (chunkB p).length ≤ 25 := by unfold chunkB; split <;> simp
theorem textI_len : ∀ ps : List Im, (textI ps).length ≤ 26 * ps.length
 | [] => Nat.le_refl _
 | p :: ps => by
   have h1 := textI_len ps
   have h2 := chunkB_len p
   show ((chunkB p ++ [32]) ++ textI ps).length ≤ _
   simp only [List.length_append, List.length_cons, List.length_nil]
   omega
theorem chunkK_len (p : Im) : 5 ≤ (chunkK p).length ∧ (chunkK p).length ≤ 7 := by unfold chunkK; split <;> simp
theorem toksI_len : ∀ ps : List Im, 5 * ps.length ≤ (toksI ps).length
 | [] => Nat.le_refl _
 | p :: ps => by
   have h1 := toksI_len ps
   have h2 := (chunkK_len p).1
   show _ ≤ (chunkK p ++ toksI ps).length
   simp only [List.length_append, List.length_cons]
   omega
theorem read_law {ps : List Im} (hps : ∀ p ∈ ps, OKc p.2) (hn : ps.length ≤ 60) (s : ByteArray) (hs : s.data.toList = hdB ++ (textI ps ++ enB)) {w : World} (E : EnvS w) :
 Calls Tryz.prog 13 #[.string s] w fun e w' => ∃ b d l, e = .returned (.tuple #[.pointer (some ⟨b, 0, none⟩), .complex .f64 0 0, .int .i64 0]) ∧ d.kind = 52 ∧ RepS (fun _ => True) w' (.node d (forest l) .no) [.pointer (some ⟨b, 0, none⟩)] ∧ l.length ≤ 61 ∧ (∀ k ∈ l, k.1.kind = 53 → (unF k.2).length ≤ 100) ∧ impsL [] l = wantP [] ps ∧ Below w.heap.size w w' := by
 have hlen : s.data.toList.length ≤ 16384 := by
  have := textI_len ps
  rw [hs]
  simp only [List.length_append, show hdB.length = 10 from rfl, show enB.length = 6 from rfl]
  omega
 obtain ⟨t, hl, ht⟩ := scan_of_lex (lex_all hps) (hs ▸ hlen)
 rw [← hs] at hl
 have htl : t.length = (toksI ps).length + 7 := by
  have := congrArg List.length ht
  simp only [List.length_map, allK, List.length_append, List.length_cons, List.length_nil] at this
  omega
 have h5 := toksI_len ps
 have hscan := Ex.scanL_len hl
 obtain ⟨L, hL⟩ : ∃ L, L = rowT s.data.toList t := ⟨_, rfl⟩
 have hm : L.map (·.1) = allK ps ++ [noTk] := by rw [hL, rowT_map, ht]
 have ha : AtK L 0 ([kw sModule, kn 77, ks sSem] ++ ((toksI ps ++ [kw sEnd]) ++ [kn 77, ks sDot, noTk])) := atK_of (by rw [hm]; simp [allK])
 obtain ⟨a1, a2⟩ := ha.app
 obtain ⟨a2, _⟩ := a2.app
 obtain ⟨h1, _⟩ := a1.cons
 obtain ⟨li, e, _⟩ := imports_run (L := L) (g := t.length + 1) (by omega) ps (t.length + 1) [] 3 (by omega) a2
 have hend : AtEnd L (3 + (toksI ps).length) := atEnd_of (by
  obtain ⟨_, a3⟩ := a2.app
  exact (AtK.cons a3).1)
 obtain ⟨b0, hb0, hbe⟩ := block_end (g := t.length) (f := t.length) hend
 obtain ⟨l, p, j, hu, hnl⟩ := unit_run (L := L) (g := t.length + 1) (df := defF (t.length + 1)) (by omega) hm hbe
 have hR := Read_unit s E hl (g := t.length) (by omega) (by omega) (by rw [← hL, wd_of h1]; rfl) (by rw [← hL, wd_of h1]; rfl)
  (fun a j h => by rw [← hL] at h ⊢; rw [e] at h; injection h with h; injection h with _ h; subst h; exact hend)
  (fun k h => by rw [← hL] at h; unfold parseU at h; rw [hu] at h; cases h)
 rw [← hL, show parseU (t.length + 1) L 0 = _ from hu] at hR
 obtain ⟨q1, q2⟩ := nodes_len l ps hnl
 refine hR.mono fun e w' ⟨b, he, hr, hb⟩ => ⟨b, ⟨52, p, ⟨#[77]⟩, 0⟩, l ++ [b0], he, rfl, hr.more fun _ _ _ => trivial, by simp; omega, fun k hk h53 => ?_, ?_, hb⟩
 ·rcases List.mem_append.1 hk with hk | hk
  ·exact q2 k hk h53
  ·rw [List.mem_singleton] at hk; subst hk; rw [hb0] at h53; cases h53
 ·unfold impsL
  rw [List.foldl_append]
  show impK (impsL [] l) b0 = _
  rw [imps_nodes l ps [] hnl]
  unfold impK
  rw [if_neg (by rw [hb0]; decide), if_neg (by rw [hb0]; decide)]
end Go.Proofs.YtkemhmfdooghkaaGreatDoor.Un
end

section
namespace Go.Proofs.YtkemhmfdooghkaaGreatDoor.Od
open Go.RowKit
open Go.ChangeMaps (setBlock)
abbrev Nm := List UInt8
theorem nd_inj {o : List Nm} (h : o.Nodup) {i j : Nat} {m : Nm} (hi : o[i]? = some m) (hj : o[j]? = some m) : i = j := by
 obtain ⟨l1, e1⟩ := List.getElem?_eq_some_iff.1 hi
 obtain ⟨l2, e2⟩ := List.getElem?_eq_some_iff.1 hj
 have hp := List.pairwise_iff_getElem.1 h
 rcases Nat.lt_trichotomy i j with q | q | q
 ·exact absurd (e1.trans e2.symm) (hp i j l1 l2 q)
 ·exact q
 ·exact absurd (e2.trans e1.symm) (hp j i l2 l1 q)
def S (m : Nm) : ByteArray := ⟨m.toArray⟩
theorem S_inj {a b : Nm} : S a = S b ↔ a = b := by
 unfold S
 constructor
 ·intro h; injection h with h; simpa using congrArg Array.toList h
 ·intro h; rw [h]
theorem S_beq (a b : Nm) : (S a == S b) = decide (a = b) := by
 rw [Bool.eq_iff_iff, decide_eq_true_eq, MapKept.bytes_beq, S_inj]
def IsM (w : World) (b : Nat) (ks : List Nm) (f : Nm → Value) : Prop :=
 ∃ es clock, w.heap[b]? = some (.map es clock) ∧ (∀ x ∈ es.toList, x.born < clock) ∧ (es.toList.map (·.born)).Nodup ∧ es.toList.map (fun e => (e.key, e.val)) = ks.map (fun k => (Value.string (S k), f k)) ∧ ks.Nodup
theorem IsM.lt {w : World} {b : Nat} {ks : List Nm} {f : Nm → Value} (h : IsM w b ks f) : b < w.heap.size := by
 obtain ⟨es, clock, hb, _⟩ := h
 exact (Array.getElem?_eq_some_iff.1 hb).1
theorem IsM.kept {w w' : World} {b : Nat} {ks : List Nm} {f : Nm → Value} (h : IsM w b ks f) (hk : w'.heap[b]? = w.heap[b]?) : IsM w' b ks f := by
 obtain ⟨es, clock, hb, r⟩ := h
 exact ⟨es, clock, hk.trans hb, r⟩
theorem IsM.grown {w w' : World} {b : Nat} {ks : List Nm} {f : Nm → Value} {row : Option Nat} (h : IsM w b ks f) (hg : w.grownBy w' row) (hne : some b ≠ row) : IsM w' b ks f := h.kept (hg.block b h.lt hne)
theorem IsM.alloc {w : World} {b : Nat} {ks : List Nm} {f : Nm → Value} (h : IsM w b ks f) (o : Obj) : IsM (w.alloc o) b ks f := h.kept (heap_alloc_old w o h.lt)
theorem IsM.drew {w : World} {b : Nat} {ks : List Nm} {f : Nm → Value} (h : IsM w b ks f) : IsM w.drew b ks f := h
theorem IsM.setCell {w : World} {b : Nat} {ks : List Nm} {f : Nm → Value} (h : IsM w b ks f) {a : Addr} (ha : b ≠ a.block) (u : Value) : IsM (w.setCell a u) b ks f := by
 refine h.kept ?_
 unfold World.setCell
 simp [Array.getElem?_modify, Ne.symm ha]
theorem IsM.made (w : World) (f : Nm → Value) : IsM (w.alloc (.map #[] 0)) w.heap.size [] f :=
 ⟨#[], 0, heap_alloc_new w _, by simp, by simp, by simp, .nil⟩
theorem IsM.congr {w : World} {b : Nat} {ks : List Nm} {f g : Nm → Value} (h : IsM w b ks f) (hfg : ∀ k ∈ ks, f k = g k) : IsM w b ks g := by
 obtain ⟨es, clock, hb, h1, h2, h3, h4⟩ := h
 exact ⟨es, clock, hb, h1, h2, h3.trans (List.map_congr_left fun k hk => by rw [hfg k hk]), h4⟩
theorem find_es (m : Nm) : ∀ (es : List MapEntry) (ks : List Nm) (f : Nm → Value) (i : Nat), es.map (fun e => (e.key, e.val)) = ks.map (fun k => (Value.string (S k), f k)) →
 (m ∉ ks → Instr.findNow .string (.string (S m)) es i = some none) ∧ (m ∈ ks → ∃ j e, es[j]? = some e ∧ e.key = .string (S m) ∧ e.val = f m ∧ ks[j]? = some m ∧ Instr.findNow .string (.string (S m)) es i = some (some (i + j, f m)))
 | [], [], _, _, _ => ⟨fun _ => rfl, fun h => by cases h⟩
 | [], _ :: _, _, _, h => by simp at h
 | _ :: _, [], _, _, h => by simp at h
 | e :: es, k :: ks, f, i, h => by
   simp only [List.map_cons, List.cons.injEq, Prod.mk.injEq] at h
   obtain ⟨⟨h1, h2⟩, h3⟩ := h
   have ih := find_es m es ks f (i + 1) h3
   have e1 : Instr.findNow .string (.string (S m)) (e :: es) i = if m = k then some (some (i, e.val)) else Instr.findNow .string (.string (S m)) es (i + 1) := by
    simp only [Instr.findNow, h1, Instr.sameNow, S_beq]
    by_cases hm : m = k <;> simp [hm]
   rw [e1]
   by_cases hm : m = k
   ·rw [if_pos hm]
    subst hm
    exact ⟨fun h => absurd (List.mem_cons_self ..) h, fun _ => ⟨0, e, rfl, h1, h2, rfl, by rw [h2]; rfl⟩⟩
   ·rw [if_neg hm]
    refine ⟨fun h => ih.1 (fun h' => h (List.mem_cons_of_mem _ h')), fun h => ?_⟩
    obtain ⟨j, e', g1, g2, g3, g4, g5⟩ := ih.2 ((List.mem_cons.1 h).resolve_left hm)
    exact ⟨j + 1, e', by simpa using g1, g2, g3, by simpa using g4, by rw [g5]; congr 3; omega⟩
section
variable {P : Program} {T K E : TypeId} (hT : P.underlying T = some (.map K E)) (hK : P.underlying K = some .string)
include hT hK
theorem IsM.look_in {w : World} {b : Nat} {ks : List Nm} {f : Nm → Value} (h : IsM w b ks f) {m : Nm} (hm : m ∈ ks) (ok : Bool) :
 (Instr.lookup T (.map (some b)) (.string (S m)) ok).run P w = .ok (if ok then .tuple #[f m, .bool true] else f m) w := by
 obtain ⟨es, clock, hb, _, _, h3, _⟩ := h
 obtain ⟨j, e, _, _, _, _, hf⟩ := (find_es m es.toList ks f 0 h3).2 hm
 have hc : ∀ x, (Instr.checkKey x 10000 K (.string (S m))).run P w = .ok () w := fun x => MapKept.run_checkKey hK (by simp [MapKept.IsKey]) x 9999
 simp [Instr.lookup, run_underlying hT, MapKept.run_getObj_map hb, hc, MapKept.run_findKey (l := es.toList) hK hf, Result.andThen]
theorem IsM.look_out {w : World} {b : Nat} {ks : List Nm} {f : Nm → Value} (h : IsM w b ks f) {m : Nm} (hm : m ∉ ks) {z : Value} (hz : (zeroValue E).run P w = .ok z w) (ok : Bool) :
 (Instr.lookup T (.map (some b)) (.string (S m)) ok).run P w = .ok (if ok then .tuple #[z, .bool false] else z) w := by
 obtain ⟨es, clock, hb, _, _, h3, _⟩ := h
 have hf := (find_es m es.toList ks f 0 h3).1 hm
 have hc : ∀ x, (Instr.checkKey x 10000 K (.string (S m))).run P w = .ok () w := fun x => MapKept.run_checkKey hK (by simp [MapKept.IsKey]) x 9999
 simp [Instr.lookup, run_underlying hT, MapKept.run_getObj_map hb, hc, MapKept.run_findKey (l := es.toList) hK hf, hz, Result.andThen]
def updV (f : Nm → Value) (m : Nm) (v : Value) : Nm → Value := fun n => if n = m then v else f n
omit hT hK in
theorem set_upd (ks : List Nm) (f : Nm → Value) (m : Nm) (v : Value) (hn : ks.Nodup) (j : Nat) (hj : ks[j]? = some m) :
 (ks.map (fun k => (Value.string (S k), f k))).set j (.string (S m), v) = ks.map (fun k => (Value.string (S k), updV f m v k)) := by
 apply List.ext_getElem?
 intro i
 rw [List.getElem?_set, List.getElem?_map]
 by_cases hij : j = i
 ·subst hij
  have hlt : j < ks.length := (List.getElem?_eq_some_iff.1 hj).1
  rw [if_pos rfl, List.getElem?_map, hj]
  simp [updV, hlt]
 ·rw [if_neg hij, List.getElem?_map]
  cases hk : ks[i]? with
  | none => rfl
  | some k =>
    have hne : k ≠ m := fun e => by
     subst e
     exact hij (nd_inj hn hj hk)
    simp [updV, hne]
theorem IsM.put {w : World} {b : Nat} {ks : List Nm} {f : Nm → Value} (h : IsM w b ks f) (m : Nm) (v : Value) :
 ∃ w', (Instr.mapUpdate T (.map (some b)) (.string (S m)) v).run P w = .ok () w' ∧ IsM w' b (if m ∈ ks then ks else ks ++ [m]) (updV f m v) ∧ w.grownBy w' (some b) := by
 have hgr : ∀ o, w.grownBy { w with heap := w.heap.setIfInBounds b o } (some b) := fun o =>
  ⟨rfl, rfl, rfl, by simp, fun i hi hne => by
    show (w.heap.setIfInBounds b o)[i]? = _
    rw [Array.getElem?_setIfInBounds, if_neg (fun e => hne (by rw [e]))]⟩
 have hlt := h.lt
 obtain ⟨es, clock, hb, h1, h2, h3, h4⟩ := h
 have hc : (Instr.checkKey false 10000 K (.string (S m))).run P w = .ok () w := MapKept.run_checkKey hK (by simp [MapKept.IsKey]) false 9999
 by_cases hm : m ∈ ks
 ·rw [if_pos hm]
  obtain ⟨j, e, g1, g2, g3, g4, hf⟩ := (find_es m es.toList ks f 0 h3).2 hm
  have hj : es[j]? = some e := by simpa using g1
  refine ⟨{ w with heap := w.heap.setIfInBounds b (.map (es.modify j fun e => { e with key := .string (S m), val := v }) clock) }, ?_, ?_, hgr _⟩
  ·simp [Instr.mapUpdate, run_underlying hT, MapKept.run_getObj_map hb, hc, MapKept.run_findKey (l := es.toList) hK hf, hj, g2, MapKept.run_keyThatStays (d := .string) (k := .string (S m)) (by simp [MapKept.IsKey]), MapKept.run_setObj_map _ hb, Result.andThen]
  ·have hmod : ∀ (g : MapEntry → MapEntry), (es.modify j g).toList = es.toList.modify j g := fun g => by simp
   have hset : es.toList.modify j (fun e => { e with key := .string (S m), val := v }) = es.toList.set j { e with key := .string (S m), val := v } := by
    apply List.ext_getElem?
    intro i
    rw [List.getElem?_modify, List.getElem?_set]
    by_cases hij : j = i
    ·subst hij
     have hl : j < es.toList.length := (List.getElem?_eq_some_iff.1 g1).1
     rw [g1]
     simp at hl
     simp [hl]
    ·simp [hij]
   refine ⟨es.modify j fun e => { e with key := .string (S m), val := v }, clock, by simp [hlt], ?_, ?_, ?_, h4⟩
   ·intro x hx
    rw [hmod, hset] at hx
    rcases List.mem_or_eq_of_mem_set hx with hx | hx
    ·exact h1 x hx
    ·subst hx; exact h1 e (List.mem_of_getElem? g1)
   ·rw [hmod, hset, List.map_set]
    have : (es.toList.map (·.born)).set j e.born = es.toList.map (·.born) := by
     apply List.ext_getElem?
     intro i
     rw [List.getElem?_set]
     by_cases hij : j = i
     ·subst hij
      have hl : j < es.toList.length := (List.getElem?_eq_some_iff.1 g1).1
      rw [if_pos rfl, List.getElem?_map, g1]
      simp at hl
      simp [hl]
     ·rw [if_neg hij]
    show ((es.toList.map (·.born)).set j e.born).Nodup
    rw [this]
    exact h2
   ·rw [hmod, hset, List.map_set, h3]
    exact set_upd ks f m v h4 j g4
 ·rw [if_neg hm]
  have hf := (find_es m es.toList ks f 0 h3).1 hm
  refine ⟨{ w with heap := w.heap.setIfInBounds b (.map (es.push { key := .string (S m), val := v, born := clock }) (clock + 1)) }, ?_, ?_, hgr _⟩
  ·simp [Instr.mapUpdate, run_underlying hT, MapKept.run_getObj_map hb, hc, MapKept.run_findKey (l := es.toList) hK hf, MapKept.run_setObj_map _ hb, Result.andThen]
  ·refine ⟨es.push { key := .string (S m), val := v, born := clock }, clock + 1, by simp [hlt], ?_, ?_, ?_, ?_⟩
   ·intro x hx
    simp only [Array.toList_push, List.mem_append, List.mem_singleton] at hx
    rcases hx with hx | rfl
    ·have := h1 x hx; omega
    ·exact Nat.lt_succ_self _
   ·simp only [Array.toList_push, List.map_append, List.map_cons, List.map_nil]
    rw [List.nodup_append]
    refine ⟨h2, by simp, fun a ha b hb' => ?_⟩
    simp only [List.mem_singleton] at hb'
    subst hb'
    obtain ⟨x, hx, rfl⟩ := List.mem_map.1 ha
    exact Nat.ne_of_lt (h1 x hx)
   ·simp only [Array.toList_push, List.map_append, List.map_cons, List.map_nil, h3]
    congr 1
    ·exact List.map_congr_left fun k hk => by
      have hne : k ≠ m := fun e => hm (e ▸ hk)
      unfold updV
      rw [if_neg hne]
    ·simp [updV]
   ·rw [List.nodup_append]
    exact ⟨h4, by simp, fun a ha b hb' => by rw [List.mem_singleton] at hb'; subst hb'; exact fun e => hm (e ▸ ha)⟩
end
end Go.Proofs.YtkemhmfdooghkaaGreatDoor.Od
end
