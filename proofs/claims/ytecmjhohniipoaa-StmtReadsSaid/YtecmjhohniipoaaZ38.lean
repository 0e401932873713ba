/- A part of the proof: V9. -/
import Derived.Test.YtecmjhohniipoaaZ1
import Derived.Test.YtecmjhohniipoaaZ36
import Derived.Test.YtecmjhohniipoaaZ37
import Derived.Deep.Cut
import Derived.Deep.CutBlock
import Derived.Deep.CutRange
import Derived.Deep.AppendLies
import Derived.Deep.LoopGhost
set_option linter.unusedSimpArgs false
set_option linter.unusedVariables false

section
namespace Go.Proofs.Ytecmjhohniipoaa.Rs
open Go.RowKit
open Tr (Nd Fo RepS RepN Rep cellsN)
open Lx (Tk noTk Blk run_store_complexL TokAt)
open Fl
open Ex
attribute [local go_sem] run_store_complexL run_field1 run_field3 St.run_field0
set_option maxRecDepth 100000 in set_option maxHeartbeats 6400000 in
theorem rdo7 {w : World} {A : Option Addr} {L : List PT} (h : RowAt w A L) (ok : OKRow L) (c : Nat) {i : Nat} (hi : i ≤ 60000) {g : Nat} (hg : L.length < g) : Calls Try.prog 11 #[.slice A L.length c, .int .i64 i] w (ParR w (St.bodyF g (g + 1) L i)) := by
 have x0 : (0 : Int) ≤ (i : Int) := by omega
 have x1 : ¬ (i : Int) < 0 := by omega
 have hb0 : Below w.heap.size w (w.alloc (.cells #[.slice A L.length c, .int .i64 i, .bool false] 55)) := (Below.refl _ _).alloc (Nat.le_refl _) _
 have hsz : (w.alloc (.cells #[.slice A L.length c, .int .i64 i, .bool false] 55)).heap.size = w.heap.size + 1 := World.size_alloc _ _
 have hq : QInv (w.alloc (.cells #[.slice A L.length c, .int .i64 i, .bool false] 55)) (w.alloc (.cells #[.slice A L.length c, .int .i64 i, .bool false] 55)) w.heap.size A c L i false := ⟨Lx.Blk.new _ _ _, ⟨rfl, rfl, rfl, Nat.le_refl _, fun _ _ _ => rfl⟩⟩
 have ht : Toks (w.alloc (.cells #[.slice A L.length c, .int .i64 i, .bool false] 55)) w.heap.size A L := ⟨(h.reads.below hb0).more hb0.size, by omega, fun ad e => by have := h.low ad e; omega, h.len⟩
 have d1 := rbody_any (c := c) ht ok hg g 0 (by omega) false i (fun _ => Nat.zero_le _) hi _ hq
 rw [if_neg (by simp)] at d1
 have HB0 := qh hb0
 clear h ok hb0 hq ht
 generalize St.bodyF g (g + 1) L i = r at *
 have D1 := qh d1
 clear d1
 go_enter Try.func11, Try.ntmps11
 go_wp2_with fail
 ((with_reducible refine D1.out.mono ?_); rintro e w1 ⟨p, rfl, hp, hg1, hr⟩)
 have HB := qh (HB0.out.grown hg1 HB0.out.size (fun k e => by injection e with e; omega))
 rcases r with k | ⟨x, j⟩
 ·have TD := qh (told_bad hp p)
  clear hp hg1 hr D1
  go_wp2_with fail
  ((with_reducible refine TD.out.mono ?_); rintro e w2 ⟨rfl, hb⟩)
  have HB2 := qh (HB.out.trans (hb.mono HB.out.size))
  clear hb
  go_wp2
  go_ret3
  exact ⟨rfl, HB2.out⟩
 ·have TD := qh (told_ok hp p)
  have HR := qh ((hr x j rfl).more (S' := fun y => w.heap.size ≤ y) fun y hy _ => by omega)
  clear hp hg1 hr D1
  go_wp2_with fail
  ((with_reducible refine TD.out.mono ?_); rintro e w2 ⟨rfl, hb⟩)
  have HB2 := qh (HB.out.trans (hb.mono HB.out.size))
  have HR2 := qh (HR.out.below hb)
  clear hb
  obtain ⟨b, _, _, _, hpb, _⟩ := HR2.out.rep.one
  have hpb : p = some ⟨b, 0, none⟩ := by injection hpb
  subst hpb
  go_wp2
  go_ret3
  exact ⟨b, rfl, HR2.out, HB2.out⟩
theorem rdo7_neg (v : Value) (i : Int) (hi : i < 0) (w : World) : Calls Try.prog 11 #[v, .int .i64 i] w (ParR w (.error 0)) := by
 go_enter Try.func11, Try.ntmps11
 go_wp2
 go_ret3
 exact ⟨rfl, Below.refl _ _⟩
set_option maxRecDepth 100000 in set_option maxHeartbeats 6400000 in
theorem reads_walk (s : ByteArray) (a1 : Int) (w : World) (w0 : s.size ≤ 9223372036854775807) (h1 : -9223372036854775808 ≤ a1 ∧ a1 ≤ 9223372036854775807) :
 Calls Try.prog 3 #[.string s, .int .i64 a1] w fun e w' => e = .returned (.bool true) ∧ Below w.heap.size w w' := by
 have HV := St.heavy_any s w
 by_cases hh : 2048 < s.size ∨ 1024 < a1
 ·have HV := qh HV
  have WK := qh (St.works_any w)
  by_cases hh2 : 2048 < s.size
  ·have HV := HV.out
   rw [decide_eq_true hh2] at HV
   have HV := qh HV
   clear hh hh2
   go_enter Try.func3, Try.ntmps3
   go_wp2_with fail
   ((with_reducible refine HV.out.mono ?_); rintro e w1 ⟨rfl, rfl⟩)
   go_wp2_with fail
   ((with_reducible refine WK.out.mono ?_); rintro e w1 ⟨rfl, hb⟩)
   go_wp2
   go_ret
   exact ⟨rfl, hb⟩
  ·have hh3 : 1024 < a1 := hh.resolve_left hh2
   have HV := HV.out
   rw [decide_eq_false hh2] at HV
   have HV := qh HV
   clear hh hh2
   go_enter Try.func3, Try.ntmps3
   go_wp2_with fail
   ((with_reducible refine HV.out.mono ?_); rintro e w1 ⟨rfl, rfl⟩)
   go_wp2_with fail
   ((with_reducible refine WK.out.mono ?_); rintro e w1 ⟨rfl, hb⟩)
   go_wp2
   go_ret
   exact ⟨rfl, hb⟩
 ·have hh1 : ¬ 2048 < s.size := fun h => hh (.inl h)
  have hh2 : ¬ 1024 < a1 := fun h => hh (.inr h)
  rw [decide_eq_false hh1] at HV
  have HV := qh HV
  have D0 := row_any s (by omega) w
  have hL := rowP_len s.data.toList
  have HFR := qh (row_fit s.data.toList)
  generalize rowP s.data.toList = L at *
  have D0 := qh D0
  have hL2 : L.length ≤ 20000 := by
   have : s.data.toList.length = s.size := Array.length_toList
   omega
  clear hh hL
  by_cases hn : a1 < 0
  ·go_enter Try.func3, Try.ntmps3
   go_wp2_with fail
   ((with_reducible refine HV.out.mono ?_); rintro e w1 ⟨rfl, rfl⟩)
   go_wp2_with fail
   ((with_reducible refine D0.out.mono ?_); rintro e w1 ⟨A, c, rfl, hc, ha, hb⟩)
   have HB := qh hb
   have HA := qh ha
   have D1 := qh (St.Body_neg A L.length c a1 hn w1)
   clear hb ha D0
   go_wp2_with fail
   ((with_reducible refine D1.out.mono ?_); rintro e w2 ⟨rfl, hb⟩)
   have HB := qh (HB.out.trans (hb.mono HB.out.size))
   have D2 := qh (rdo7_neg (.slice A L.length c) a1 hn w2)
   clear hb D1
   go_wp2_with fail
   ((with_reducible refine D2.out.mono ?_); rintro e w3 ⟨rfl, hb⟩)
   have HB := qh (HB.out.trans (hb.mono HB.out.size))
   clear hb D2
   have EXA := qh (exact_nil w3)
   go_wp2_with fail
   ((with_reducible refine EXA.out.mono ?_); rintro e w4 ⟨rfl, rfl⟩)
   have WK := qh (St.works_any w3)
   clear EXA
   go_wp2_with fail
   ((with_reducible refine WK.out.mono ?_); rintro e w9 ⟨rfl, hb⟩)
   have HB := qh (HB.out.trans (hb.mono HB.out.size))
   clear hb WK
   go_wp2
   go_ret
   exact ⟨rfl, HB.out⟩
  ·obtain ⟨i, rfl⟩ : ∃ i : Nat, a1 = (i : Int) := ⟨a1.toNat, by omega⟩
   have hi : i ≤ 1024 := by omega
   go_enter Try.func3, Try.ntmps3
   go_wp2_with fail
   ((with_reducible refine HV.out.mono ?_); rintro e w1 ⟨rfl, rfl⟩)
   go_wp2_with fail
   ((with_reducible refine D0.out.mono ?_); rintro e w1 ⟨A, c, rfl, hc, ha, hb⟩)
   have HB := qh hb
   have HA := qh ha
   have d1 := St.Body_any ha c (i := i) (by omega) (g := L.length + 1) (by omega)
   clear hb ha D0
   cases hx : St.bodyF (L.length + 1) (L.length + 1 + 1) L i with
   | error n =>
     rw [hx] at d1
     have D1 := qh d1
     have HX := qh hx
     clear d1 hx
     go_wp2_with fail
     ((with_reducible refine D1.out.mono ?_); rintro e w2 ⟨rfl, hb⟩)
     have HB := qh (HB.out.trans (hb.mono HB.out.size))
     have d2 := rdo7 (HA.out.below hb) (fun j => (HFR.out j).ok) c (i := i) (by omega) (g := L.length + 1) (by omega)
     rw [HX.out] at d2
     have D2 := qh d2
     clear d2
     clear hb D1
     go_wp2_with fail
     ((with_reducible refine D2.out.mono ?_); rintro e w3 ⟨rfl, hb⟩)
     have HB := qh (HB.out.trans (hb.mono HB.out.size))
     clear hb D2
     have EXA := qh (exact_nil w3)
     go_wp2_with fail
     ((with_reducible refine EXA.out.mono ?_); rintro e w4 ⟨rfl, rfl⟩)
     have WK := qh (St.works_any w3)
     clear EXA
     go_wp2_with fail
     ((with_reducible refine WK.out.mono ?_); rintro e w9 ⟨rfl, hb⟩)
     have HB := qh (HB.out.trans (hb.mono HB.out.size))
     clear hb WK
     go_wp2
     go_ret
     exact ⟨rfl, HB.out⟩
   | ok r =>
     obtain ⟨x, n⟩ := r
     rw [hx] at d1
     have D1 := qh d1
     have HX := qh hx
     have hfit := St.body_fit HFR.out hL2 (show i ≤ 60000 by omega) hx
     clear d1 hx
     go_wp2_with fail
     ((with_reducible refine D1.out.mono ?_); rintro e w2 ⟨b1, rfl, hr1, hb⟩)
     have HB := qh (HB.out.trans (hb.mono HB.out.size))
     have d2 := rdo7 (HA.out.below hb) (fun j => (HFR.out j).ok) c (i := i) (by omega) (g := L.length + 1) (by omega)
     rw [HX.out] at d2
     have D2 := qh d2
     clear d2
     have HR1 := qh hr1
     clear hb D1 hr1
     go_wp2_with fail
     ((with_reducible refine D2.out.mono ?_); rintro e w3 ⟨b2, rfl, hr2, hb⟩)
     have HB := qh (HB.out.trans (hb.mono HB.out.size))
     have EXA := qh (exact_at (HR1.out.below hb) hr2 hfit.1 hfit.2)
     clear hb D2 hr2 HR1 hfit
     go_wp2_with fail
     ((with_reducible refine EXA.out.mono ?_); rintro e w4 ⟨rfl, m9, rfl⟩)
     have HB := qh (Lx.below_drewN HB.out m9)
     have WK := qh (St.works_any (w3.drewN m9))
     clear EXA
     go_wp2_with fail
     ((with_reducible refine WK.out.mono ?_); rintro e w9 ⟨rfl, hb⟩)
     have HB := qh (HB.out.trans (hb.mono HB.out.size))
     clear hb WK
     go_wp2
     go_ret
     exact ⟨rfl, HB.out⟩
theorem reads_law (a0 : ByteArray) (a1 : Int) (w0 : a0.size ≤ maxLen) (w1 : (Lit.int .i64 a1).wf = true) (w : World) :
 Calls Try.prog 3 #[.string a0, .int .i64 a1] w fun e w' => e = .returned (.bool true) ∧ Below w.heap.size w w' := by
 have b1 := bounds_i64 w1
 exact reads_walk a0 a1 w (by unfold maxLen at w0; omega) ⟨by omega, by omega⟩
end Go.Proofs.Ytecmjhohniipoaa.Rs
end
