/- A part of the proof: N8, N9, K17. -/
import Derived.Test.YtkemhmfdooghkaaGreatDoorW1
import Derived.Test.YtkemhmfdooghkaaGreatDoorW43
import Derived.Defers
import Derived.Recover
import Derived.Laws.Pointers
import Derived.RegionTactic
import Derived.Deep.RegionLaw
import Derived.Test.YtkemhmfdooghkaaGreatDoorW10
import Derived.Test.YtkemhmfdooghkaaGreatDoorW11
import Derived.Test.YtkemhmfdooghkaaGreatDoorW42
set_option linter.unusedSimpArgs false
set_option linter.unusedVariables false
set_option maxRecDepth 100000
set_option maxHeartbeats 6400000
namespace Go.Proofs.YtkemhmfdooghkaaGreatDoor.Un
open Go.RowKit
open Tr (Nd Fo RepS RepN Rep cellsN)
open Lx (Tk noTk Blk run_store_complexL TokAt)
open Fl
open Ex
open St (TkS g2_max Good2 isNm KG KN new_kg new_0 kid_facts one_ptr sSem sCol sEnd isWd6 ret_ bind_err need_n)
open De (LG new_leaf new_lg run_field0)
attribute [local go_sem] run_store_complexL run_field0 run_field1 run_field3
theorem catch_idle (p q r : Addr) (w : World) :
 CallsD Tryz.prog 19 #[.pointer (some p), .pointer (some q), .pointer (some r)] .returning w fun e u' w' => e = .returned (.tuple #[]) ∧ u' = .returning ∧ w' = w := by
 refine callsD_of_wpS Tryz.func19 rfl fun c₀ cs hu => ?_
 apply wpS_seq
 apply wpS_region
 simp [wpOpsS, go_sem, recoverD, hu, Tryz.ntmps19, Exit.thenS]
 apply wpS_seq
 apply wpS_region
 simp [wpOpsS, go_sem, Exit.thenS, Array.replicate]
 refine wpS_cond (t := false) (by simp [Act.eval, Array.replicate]) ?_
 simp only [Bool.false_eq_true, if_false]
 refine wpS_of_wp (wp_skip ?_)
 cases c₀
 simp_all [bodyPostS, results, Tryz.results19]
theorem run_bad (k : Int) (w : World) : (Instr.typeAssert (.iface 62 (.int .i64 k)) 20 62 false).run Tryz.prog w = .ok (.int .i64 k) w := by
 kernel_rfl
theorem catch_bad (b1 b2 b3 : Nat) (v1 : Option Addr) (k : Nat) (w : World)
 (h1 : w.cell? ⟨b1, 0, none⟩ = some (.pointer v1)) (h2 : w.cell? ⟨b2, 0, none⟩ = some (.int .i64 0)) (h3 : w.cell? ⟨b3, 0, none⟩ = some (.int .i64 0)) (f1 : w.frozen? ⟨b1, 0, none⟩ = false) (f2 : w.frozen? ⟨b2, 0, none⟩ = false) (f3 : w.frozen? ⟨b3, 0, none⟩ = false)
 (n12 : b1 < b2) (n23 : b2 < b3) :
 CallsD Tryz.prog 19 #[.pointer (some ⟨b1, 0, none⟩), .pointer (some ⟨b2, 0, none⟩), .pointer (some ⟨b3, 0, none⟩)] (.panicking [{ v := .iface 62 (.int .i64 k), recovered := false }]) w fun e u' w' =>
  e = .returned (.tuple #[]) ∧ u' = .panicking [{ v := .iface 62 (.int .i64 k), recovered := true }] ∧ w' = (((w.setCell ⟨b1, 0, none⟩ (.pointer none)).setCell ⟨b2, 0, none⟩ (.int .i64 k)).setCell ⟨b3, 0, none⟩ (.int .i64 60)).drew := by
 refine callsD_of_wpS Tryz.func19 rfl fun c₀ cs hu => ?_
 apply wpS_seq
 apply wpS_region
 simp [wpOpsS, go_sem, recoverD, hu, Tryz.ntmps19, Exit.thenS]
 apply wpS_seq
 apply wpS_region
 simp [wpOpsS, go_sem, Exit.thenS, Array.replicate]
 refine wpS_cond (t := true) (by simp [Act.eval, Array.replicate]) ?_
 simp only [if_true]
 refine wpS_of_wp ?_
 have hne12 : ¬ b1 = b2 := by omega
 have hne13 : ¬ b1 = b3 := by omega
 have hne23 : ¬ b2 = b3 := by omega
 have hne21 : ¬ b2 = b1 := by omega
 have hne31 : ¬ b3 = b1 := by omega
 have hne32 : ¬ b3 = b2 := by omega
 have hta := run_bad k
 go_region
 all_goals
  simp [bodyPostS, results, Tryz.results19]
theorem par_world (w : World) (A : Option Addr) (c : Nat) (L : List PT) (i : Nat) : Below w.heap.size w ((((w.alloc (.cells #[.pointer none] 31)).alloc (.cells #[.int .i64 0] 3)).alloc (.cells #[.int .i64 0] 32)).alloc (.cells #[.slice A L.length c, .int .i64 i] 65)) ∧ ((((w.alloc (.cells #[.pointer none] 31)).alloc (.cells #[.int .i64 0] 3)).alloc (.cells #[.int .i64 0] 32)).alloc (.cells #[.slice A L.length c, .int .i64 i] 65)).heap.size = w.heap.size + 4 ∧ Blk ((((w.alloc (.cells #[.pointer none] 31)).alloc (.cells #[.int .i64 0] 3)).alloc (.cells #[.int .i64 0] 32)).alloc (.cells #[.slice A L.length c, .int .i64 i] 65)) w.heap.size 31 #[.pointer none] ∧ Blk ((((w.alloc (.cells #[.pointer none] 31)).alloc (.cells #[.int .i64 0] 3)).alloc (.cells #[.int .i64 0] 32)).alloc (.cells #[.slice A L.length c, .int .i64 i] 65)) (w.heap.size + 1) 3 #[.int .i64 0] ∧ Blk ((((w.alloc (.cells #[.pointer none] 31)).alloc (.cells #[.int .i64 0] 3)).alloc (.cells #[.int .i64 0] 32)).alloc (.cells #[.slice A L.length c, .int .i64 i] 65)) (w.heap.size + 1 + 1) 32 #[.int .i64 0] ∧ Blk ((((w.alloc (.cells #[.pointer none] 31)).alloc (.cells #[.int .i64 0] 3)).alloc (.cells #[.int .i64 0] 32)).alloc (.cells #[.slice A L.length c, .int .i64 i] 65)) (w.heap.size + 1 + 1 + 1) 65 #[.slice A L.length c, .int .i64 i] := by
 have hn : ∀ (W : World) (o : Obj) (m : Nat), W.heap.size = m → (W.alloc o).heap[m]? = some o := fun W o m h => by rw [← h]; exact heap_alloc_new W o
 have ho : ∀ (W : World) (o o' : Obj) (m : Nat), W.heap[m]? = some o' → (W.alloc o).heap[m]? = some o' := fun W o o' m h => (Below.heap_alloc W o m (obj_lt h)).trans h
 have ha : ∀ {W : World} (h : Below w.heap.size w W) (o : Obj), Below w.heap.size w (W.alloc o) := fun h o => h.alloc h.size o
 refine ⟨ha (ha (ha (ha (Below.refl _ _) _) _) _) _, by simp [World.size_alloc], ?_, ?_, ?_, ?_⟩
 ·exact ho _ _ _ _ (ho _ _ _ _ (ho _ _ _ _ (hn _ _ _ rfl)))
 ·exact ho _ _ _ _ (ho _ _ _ _ (hn _ _ _ (by simp [World.size_alloc])))
 ·exact ho _ _ _ _ (hn _ _ _ (by simp [World.size_alloc]))
 ·exact hn _ _ _ (by simp [World.size_alloc])
def ParU (w : World) (r : Except Nat (T1 × Nat)) (e : Ending) (w' : World) : Prop := match r with
 | .ok (x, _) => ∃ b, e = .returned (.tuple #[.pointer (some ⟨b, 0, none⟩), .int .i64 0, .int .i64 0]) ∧ RepS (fun y => w.heap.size ≤ y) w' (.node x.1 x.2 .no) [.pointer (some ⟨b, 0, none⟩)] ∧ Below w.heap.size w w'
 | .error k => e = .returned (.tuple #[.pointer none, .int .i64 k, .int .i64 60]) ∧ Below w.heap.size w w'
def finR (L : List PT) : Except Nat (T1 × Nat) → Except Nat (T1 × Nat)
 | .ok (x, j) => if isFin (tk L j) = true then .ok (x, j) else .error j
 | .error k => .error k
theorem fin_y {L : List PT} {x : T1} {j : Nat} (h : isFin (tk L j) = true) : finR L (.ok (x, j)) = .ok (x, j) := if_pos h
theorem fin_n {L : List PT} {x : T1} {j : Nat} (h : isFin (tk L j) = false) : finR L (.ok (x, j)) = .error j := if_neg (by rw [h]; simp)
theorem Parse_any {w : World} {A : Option Addr} {L : List PT} (h : RowAt w A L) (c : Nat) {ru : Except Nat (T1 × Nat)} (hj : ∀ x j, ru = .ok (x, j) → j ≤ 60000)
 (HF0 : ∀ w0 br, TkS w0 br A L → PInv w0 w0 br A c L 0 → Calls Tryz.prog 20 #[.pointer (some ⟨br, 0, none⟩)] w0 (TreeR w0.heap.size w0 w0 br A c L ru)) :
 Calls Tryz.prog 10 #[.slice A L.length c] w (ParU w (finR L ru)) := by
 have HF := qh HF0
 have HJ := qh hj
 have hL := h.len
 have hA := h.reads
 have hlow := h.low
 clear h HF0 hj
 have hmf : ∀ (fn : Fn) (first cap : Array Value) (w : World), (Instr.makeFunc fn first cap).run Tryz.prog w = .ok (.func fn first cap) w := fun _ _ _ _ => rfl
 have HA := qh hA
 clear hA
 have HPW := qh (par_world w A c L 0)
 go_enter_defers Tryz.func10, Tryz.ntmps10
 go_wp2_with fail
 obtain ⟨hb0, hs0, k1, k2, k3, kr⟩ := HPW.out
 clear HPW
 change Calls _ _ _ ((((w.alloc (.cells #[.pointer none] 31)).alloc (.cells #[.int .i64 0] 3)).alloc (.cells #[.int .i64 0] 32)).alloc (.cells #[.slice A L.length c, .int .i64 (0 : Nat)] 65)) _
 generalize ((((w.alloc (.cells #[.pointer none] 31)).alloc (.cells #[.int .i64 0] 3)).alloc (.cells #[.int .i64 0] 32)).alloc (.cells #[.slice A L.length c, .int .i64 (0 : Nat)] 65)) = w0 at *
 have HT : Hid (TkS w0 (w.heap.size + 1 + 1 + 1) A L) := qh ⟨⟨(HA.out.below hb0).more hb0.size, by omega, fun ad e => by have := hlow ad e; omega, hL⟩, fun ad e => by have := hlow ad e; have := hb0.size; omega⟩
 have H := qh (PG.start (⟨kr, ⟨rfl, rfl, rfl, Nat.le_refl _, fun _ _ _ => rfl⟩⟩ : PInv w0 w0 (w.heap.size + 1 + 1 + 1) A c L 0))
 have d1 := HF.out w0 _ HT.out H.out.1
 have hbz : w.heap.size + 1 + 1 + 1 < w0.heap.size := by omega
 have K := qh (And.intro k1 (And.intro k2 k3))
 have HB0 := qh hb0
 clear kr k1 k2 k3 hb0
 cases ru with
 | error k =>
   have D1 := qh d1
   clear d1
   ((with_reducible refine D1.out.mono ?_); rintro e wv ⟨rfl, hg⟩)
   have G := qh (And.intro (K.out.1.grown hg (by intro e; injection e with e; omega)) (And.intro (K.out.2.1.grown hg (by intro e; injection e with e; omega)) (K.out.2.2.grown hg (by intro e; injection e with e; omega))))
   have HBV := qh (Lx.below_grown HB0.out hg (fun k e => by injection e with e; omega) HB0.out.size)
   clear hg
   obtain ⟨g1, g2, g3⟩ := G.out
   refine leaves_cons (f := 19) (args := #[.pointer (some ⟨w.heap.size, 0, none⟩), .pointer (some ⟨w.heap.size + 1, 0, none⟩), .pointer (some ⟨w.heap.size + 1 + 1, 0, none⟩)]) (by simp) (by simp [go_sem]) ?_
   refine (catch_bad w.heap.size (w.heap.size + 1) (w.heap.size + 1 + 1) none k wv (g1.cell 0) (g2.cell 0) (g3.cell 0) (g1.frozen 0) (g2.frozen 0) (g3.frozen 0) (by omega) (by omega)).mono ?_
   rintro e u' w'' ⟨rfl, rfl, rfl⟩
   have z1 := ((((g1.set_ 0 (.pointer none)).far (p := ⟨w.heap.size + 1, 0, none⟩) (show w.heap.size ≠ w.heap.size + 1 by omega) (.int .i64 k)).far (p := ⟨w.heap.size + 1 + 1, 0, none⟩) (show w.heap.size ≠ w.heap.size + 1 + 1 by omega) (.int .i64 60)).drewN 1).cell 0
   have z2 := ((((g2.far (p := ⟨w.heap.size, 0, none⟩) (show w.heap.size + 1 ≠ w.heap.size by omega) (.pointer none)).set_ 0 (.int .i64 k)).far (p := ⟨w.heap.size + 1 + 1, 0, none⟩) (show w.heap.size + 1 ≠ w.heap.size + 1 + 1 by omega) (.int .i64 60)).drewN 1).cell 0
   have z3 := ((((g3.far (p := ⟨w.heap.size, 0, none⟩) (show w.heap.size + 1 + 1 ≠ w.heap.size by omega) (.pointer none)).far (p := ⟨w.heap.size + 1, 0, none⟩) (show w.heap.size + 1 + 1 ≠ w.heap.size + 1 by omega) (.int .i64 k)).set_ 0 (.int .i64 60)).drewN 1).cell 0
   have hbz2 : Below w.heap.size w ((((wv.setCell ⟨w.heap.size, 0, none⟩ (.pointer none)).setCell ⟨w.heap.size + 1, 0, none⟩ (.int .i64 k)).setCell ⟨w.heap.size + 1 + 1, 0, none⟩ (.int .i64 60)).drewN 1) := Lx.below_drewN (((HBV.out.setCell (Nat.le_refl _) _).setCell (Nat.le_succ _) _).setCell (show w.heap.size ≤ w.heap.size + 1 + 1 by omega) _) 1
   have HBZ := qh hbz2
   clear g1 g2 g3 hbz2
   change Leaves _ _ _ _ _ _ ((((wv.setCell ⟨w.heap.size, 0, none⟩ (.pointer none)).setCell ⟨w.heap.size + 1, 0, none⟩ (.int .i64 k)).setCell ⟨w.heap.size + 1 + 1, 0, none⟩ (.int .i64 60)).drewN 1)
   generalize (((wv.setCell ⟨w.heap.size, 0, none⟩ (.pointer none)).setCell ⟨w.heap.size + 1, 0, none⟩ (.int .i64 k)).setCell ⟨w.heap.size + 1 + 1, 0, none⟩ (.int .i64 60)).drewN 1 = z at *
   have z1' : z.cell? ⟨w.heap.size, 0, none⟩ = some (.pointer none) := by simpa using z1
   have z2' : z.cell? ⟨w.heap.size + 1, 0, none⟩ = some (.int .i64 k) := by simpa using z2
   have z3' : z.cell? ⟨w.heap.size + 1 + 1, 0, none⟩ = some (.int .i64 60) := by simpa using z3
   clear z1 z2 z3
   simp [Leaves, settle, results, Tryz.results10, go_sem, z1', z2', z3']
   exact ⟨rfl, HBZ.out⟩
 | ok r =>
   obtain ⟨x, j⟩ := r
   have hj := HJ.out _ _ rfl
   have D1 := qh d1
   clear d1
   ((with_reducible refine D1.out.mono ?_); rintro e wv ⟨b, rfl, hp, hg, hr⟩)
   have g1 := K.out.1.grown hg (by intro e; injection e with e; omega)
   have g2 := K.out.2.1.grown hg (by intro e; injection e with e; omega)
   have g3 := K.out.2.2.grown hg (by intro e; injection e with e; omega)
   have m1 := g1.cell 0
   have f1 := g1.frozen 0
   have h1l := g1.lt
   simp only [List.getElem?_toArray, List.getElem?_cons_zero] at m1
   have G := qh (And.intro (g1.set_ 0 (.pointer (some ⟨b, 0, none⟩))) (And.intro (g2.far (p := ⟨w.heap.size, 0, none⟩) (show w.heap.size + 1 ≠ w.heap.size by omega) (.pointer (some ⟨b, 0, none⟩))) (g3.far (p := ⟨w.heap.size, 0, none⟩) (show w.heap.size + 1 + 1 ≠ w.heap.size by omega) (.pointer (some ⟨b, 0, none⟩)))))
   have hqr := hp.row.far (p := ⟨w.heap.size, 0, none⟩) (show w.heap.size + 1 + 1 + 1 ≠ w.heap.size by omega) (.pointer (some ⟨b, 0, none⟩))
   have HBV := qh ((Lx.below_grown HB0.out hg (fun k e => by injection e with e; omega) HB0.out.size).setCell (p := ⟨w.heap.size, 0, none⟩) (Nat.le_refl _) (.pointer (some ⟨b, 0, none⟩)))
   have HR := qh ((hr.more (S' := fun y => w.heap.size + 4 ≤ y) fun y hy _ => by omega).keep (S' := fun y => w.heap.size + 4 ≤ y) (w' := wv.setCell ⟨w.heap.size, 0, none⟩ (.pointer (some ⟨b, 0, none⟩))) (by rw [World.size_setCell]; exact Nat.le_refl _) (fun y hy _ => Below.heap_setCell _ ⟨w.heap.size, 0, none⟩ _ _ (show y ≠ w.heap.size by omega)) (fun y h _ => h))
   have HQR := qh hqr
   clear hp hg hr g1 g2 g3 hqr K D1 H HT
   have HW : Hid (∀ wz, wv.setCell ⟨w.heap.size, 0, none⟩ (.pointer (some ⟨b, 0, none⟩)) = wz → Calls Tryz.prog 21 #[.pointer (some ⟨w.heap.size + 1 + 1 + 1, 0, none⟩)] wz fun e w' => e = .returned (PT.val (tk L j)) ∧ Below wz.heap.size wz w') := qh (fun wz hz => by
    subst hz
    have hbv := HBV.out
    have ht : TkS (wv.setCell ⟨w.heap.size, 0, none⟩ (.pointer (some ⟨b, 0, none⟩))) (w.heap.size + 1 + 1 + 1) A L := ⟨⟨(HA.out.below hbv).more hbv.size, by have := HQR.out.lt; omega, fun ad e => by have := hlow ad e; omega, hL⟩, fun ad e => by have := hlow ad e; have := hbv.size; omega⟩
    exact now_any ht.toks (i := j) (by omega) _ (⟨HQR.out, ⟨rfl, rfl, rfl, Nat.le_refl _, fun _ _ _ => rfl⟩⟩ : PInv _ _ (w.heap.size + 1 + 1 + 1) A c L j))
   obtain ⟨k_p, p1, p2, q3_p, q4_p, t_p, n_p, e1, e2⟩ := val_form (tk L j)
   have N1 := qh (e2 ▸ HW.out _ rfl)
   have hfin : isFin (tk L j) = decide (k_p = 0) := by rw [e1]; rfl
   clear HW e1 e2
   go_wp2_with fail
   ((with_reducible refine N1.out.mono ?_); rintro e wx ⟨rfl, hb⟩)
   have hb' := hb
   rw [World.size_setCell] at hb'
   have G := qh (And.intro (G.out.1.below hb G.out.1.lt) (And.intro (G.out.2.1.below hb G.out.2.1.lt) (G.out.2.2.below hb G.out.2.2.lt)))
   have HR := qh (HR.out.below hb)
   have HBV := qh (HBV.out.trans (hb.mono HBV.out.size))
   have HQR := qh (HQR.out.below hb HQR.out.lt)
   clear hb hb' N1 m1 f1
   by_cases hk0 : k_p = 0
   ·have hk0' : (k_p : Int) = 0 := by omega
    have FY := qh (fin_y (x := x) (hfin.trans (decide_eq_true hk0)))
    obtain ⟨g1, g2, g3⟩ := G.out
    have m1 := g1.cell 0
    have m2 := g2.cell 0
    have m3 := g3.cell 0
    have f1 := g1.frozen 0
    have f2 := g2.frozen 0
    have f3 := g3.frozen 0
    have hlx := g3.lt
    simp only [List.getElem?_toArray, List.getElem?_cons_zero] at m1 m2 m3
    clear g1 g2 g3
    go_wp2_with fail
    clear m1 m2 m3 f1 f2 f3
    obtain ⟨g1, g2, g3⟩ := G.out
    refine leaves_cons (f := 19) (args := #[.pointer (some ⟨w.heap.size, 0, none⟩), .pointer (some ⟨w.heap.size + 1, 0, none⟩), .pointer (some ⟨w.heap.size + 1 + 1, 0, none⟩)]) (by simp) (by simp [go_sem]) ?_
    refine (catch_idle ⟨w.heap.size, 0, none⟩ ⟨w.heap.size + 1, 0, none⟩ ⟨w.heap.size + 1 + 1, 0, none⟩ _).mono ?_
    rintro e u' w'' ⟨rfl, rfl, rfl⟩
    have z1 := (((g1.set_ 0 (.pointer (some ⟨b, 0, none⟩))).far (p := ⟨w.heap.size + 1, 0, none⟩) (show w.heap.size ≠ w.heap.size + 1 by omega) (.int .i64 0)).far (p := ⟨w.heap.size + 1 + 1, 0, none⟩) (show w.heap.size ≠ w.heap.size + 1 + 1 by omega) (.int .i64 0)).cell 0
    have z2 := (((g2.far (p := ⟨w.heap.size, 0, none⟩) (show w.heap.size + 1 ≠ w.heap.size by omega) (.pointer (some ⟨b, 0, none⟩))).set_ 0 (.int .i64 0)).far (p := ⟨w.heap.size + 1 + 1, 0, none⟩) (show w.heap.size + 1 ≠ w.heap.size + 1 + 1 by omega) (.int .i64 0)).cell 0
    have z3 := (((g3.far (p := ⟨w.heap.size, 0, none⟩) (show w.heap.size + 1 + 1 ≠ w.heap.size by omega) (.pointer (some ⟨b, 0, none⟩))).far (p := ⟨w.heap.size + 1, 0, none⟩) (show w.heap.size + 1 + 1 ≠ w.heap.size + 1 by omega) (.int .i64 0)).set_ 0 (.int .i64 0)).cell 0
    have HBZ := qh (((HBV.out.setCell (p := ⟨w.heap.size, 0, none⟩) (Nat.le_refl _) (.pointer (some ⟨b, 0, none⟩))).setCell (p := ⟨w.heap.size + 1, 0, none⟩) (Nat.le_succ _) (.int .i64 0)).setCell (p := ⟨w.heap.size + 1 + 1, 0, none⟩) (show w.heap.size ≤ w.heap.size + 1 + 1 by omega) (.int .i64 0))
    have h1 := HR.out.keep (S' := fun y => w.heap.size + 4 ≤ y) (w' := wx.setCell ⟨w.heap.size, 0, none⟩ (.pointer (some ⟨b, 0, none⟩))) (Nat.le_of_eq (World.size_setCell _ _ _).symm) (fun y hy _ => Below.heap_setCell _ ⟨w.heap.size, 0, none⟩ _ _ (show y ≠ w.heap.size by omega)) (fun y h _ => h)
    have h2 := h1.keep (S' := fun y => w.heap.size + 4 ≤ y) (w' := (wx.setCell ⟨w.heap.size, 0, none⟩ (.pointer (some ⟨b, 0, none⟩))).setCell ⟨w.heap.size + 1, 0, none⟩ (.int .i64 0)) (Nat.le_of_eq (World.size_setCell _ _ _).symm) (fun y hy _ => Below.heap_setCell _ ⟨w.heap.size + 1, 0, none⟩ _ _ (show y ≠ w.heap.size + 1 by omega)) (fun y h _ => h)
    have h3 := h2.keep (S' := fun y => w.heap.size + 4 ≤ y) (w' := (((wx.setCell ⟨w.heap.size, 0, none⟩ (.pointer (some ⟨b, 0, none⟩))).setCell ⟨w.heap.size + 1, 0, none⟩ (.int .i64 0)).setCell ⟨w.heap.size + 1 + 1, 0, none⟩ (.int .i64 0))) (Nat.le_of_eq (World.size_setCell _ _ _).symm) (fun y hy _ => Below.heap_setCell _ ⟨w.heap.size + 1 + 1, 0, none⟩ _ _ (show y ≠ w.heap.size + 1 + 1 by omega)) (fun y h _ => h)
    have HRZ := qh (h3.more (S' := fun y => w.heap.size ≤ y) fun y hy _ => by omega)
    clear g1 g2 g3 h1 h2 h3
    generalize (((wx.setCell ⟨w.heap.size, 0, none⟩ (.pointer (some ⟨b, 0, none⟩))).setCell ⟨w.heap.size + 1, 0, none⟩ (.int .i64 0)).setCell ⟨w.heap.size + 1 + 1, 0, none⟩ (.int .i64 0)) = z at *
    have z1' : z.cell? ⟨w.heap.size, 0, none⟩ = some (.pointer (some ⟨b, 0, none⟩)) := by simpa using z1
    have z2' : z.cell? ⟨w.heap.size + 1, 0, none⟩ = some (.int .i64 0) := by simpa using z2
    have z3' : z.cell? ⟨w.heap.size + 1 + 1, 0, none⟩ = some (.int .i64 0) := by simpa using z3
    clear z1 z2 z3
    simp [Leaves, settle, results, Tryz.results10, go_sem, z1', z2', z3']
    rw [FY.out]
    exact ⟨b, rfl, HRZ.out, HBZ.out⟩
   ·have hk0' : ¬ (k_p : Int) = 0 := by omega
    have FY := qh (fin_n (x := x) (hfin.trans (decide_eq_false hk0)))
    have mr := HQR.out.cell 1
    simp only [List.getElem?_toArray, List.getElem?_cons_zero, List.getElem?_cons_succ] at mr
    clear HR HQR
    go_wp2_with fail
    generalize wx = wv at *
    obtain ⟨g1, g2, g3⟩ := G.out
    refine leaves_cons (f := 19) (args := #[.pointer (some ⟨w.heap.size, 0, none⟩), .pointer (some ⟨w.heap.size + 1, 0, none⟩), .pointer (some ⟨w.heap.size + 1 + 1, 0, none⟩)]) (by simp) (by simp [go_sem]) ?_
    refine (catch_bad w.heap.size (w.heap.size + 1) (w.heap.size + 1 + 1) (some ⟨b, 0, none⟩) j wv (g1.cell 0) (g2.cell 0) (g3.cell 0) (g1.frozen 0) (g2.frozen 0) (g3.frozen 0) (by omega) (by omega)).mono ?_
    rintro e u' w'' ⟨rfl, rfl, rfl⟩
    have z1 := ((((g1.set_ 0 (.pointer none)).far (p := ⟨w.heap.size + 1, 0, none⟩) (show w.heap.size ≠ w.heap.size + 1 by omega) (.int .i64 j)).far (p := ⟨w.heap.size + 1 + 1, 0, none⟩) (show w.heap.size ≠ w.heap.size + 1 + 1 by omega) (.int .i64 60)).drewN 1).cell 0
    have z2 := ((((g2.far (p := ⟨w.heap.size, 0, none⟩) (show w.heap.size + 1 ≠ w.heap.size by omega) (.pointer none)).set_ 0 (.int .i64 j)).far (p := ⟨w.heap.size + 1 + 1, 0, none⟩) (show w.heap.size + 1 ≠ w.heap.size + 1 + 1 by omega) (.int .i64 60)).drewN 1).cell 0
    have z3 := ((((g3.far (p := ⟨w.heap.size, 0, none⟩) (show w.heap.size + 1 + 1 ≠ w.heap.size by omega) (.pointer none)).far (p := ⟨w.heap.size + 1, 0, none⟩) (show w.heap.size + 1 + 1 ≠ w.heap.size + 1 by omega) (.int .i64 j)).set_ 0 (.int .i64 60)).drewN 1).cell 0
    have hbz2 : Below w.heap.size w ((((wv.setCell ⟨w.heap.size, 0, none⟩ (.pointer none)).setCell ⟨w.heap.size + 1, 0, none⟩ (.int .i64 j)).setCell ⟨w.heap.size + 1 + 1, 0, none⟩ (.int .i64 60)).drewN 1) := Lx.below_drewN (((HBV.out.setCell (Nat.le_refl _) _).setCell (Nat.le_succ _) _).setCell (show w.heap.size ≤ w.heap.size + 1 + 1 by omega) _) 1
    have HBZ := qh hbz2
    clear g1 g2 g3 hbz2
    change Leaves _ _ _ _ _ _ ((((wv.setCell ⟨w.heap.size, 0, none⟩ (.pointer none)).setCell ⟨w.heap.size + 1, 0, none⟩ (.int .i64 j)).setCell ⟨w.heap.size + 1 + 1, 0, none⟩ (.int .i64 60)).drewN 1)
    generalize (((wv.setCell ⟨w.heap.size, 0, none⟩ (.pointer none)).setCell ⟨w.heap.size + 1, 0, none⟩ (.int .i64 j)).setCell ⟨w.heap.size + 1 + 1, 0, none⟩ (.int .i64 60)).drewN 1 = z at *
    have z1' : z.cell? ⟨w.heap.size, 0, none⟩ = some (.pointer none) := by simpa using z1
    have z2' : z.cell? ⟨w.heap.size + 1, 0, none⟩ = some (.int .i64 j) := by simpa using z2
    have z3' : z.cell? ⟨w.heap.size + 1 + 1, 0, none⟩ = some (.int .i64 60) := by simpa using z3
    clear z1 z2 z3
    simp [Leaves, settle, results, Tryz.results10, go_sem, z1', z2', z3']
    rw [FY.out]
    exact ⟨rfl, HBZ.out⟩
end Go.Proofs.YtkemhmfdooghkaaGreatDoor.Un
namespace Go.Proofs.YtkemhmfdooghkaaGreatDoor.Un
open Go.RowKit
open Tr (Nd Fo RepS RepN Rep cellsN)
open Lx (Tk noTk Blk run_store_complexL TokAt scanL scanF flat scanEnd at_ lex EnvS)
open Fl
open Ex
open St (TkS)
attribute [local go_sem] run_store_complexL run_field1 run_field3
theorem scanF_last : ∀ (f i : Nat) (s : List UInt8) (l : List Lx.Tok), scanF f i s = .ok l → ∃ (l' : List Lx.Tok) (j : Nat), l = l' ++ [(noTk, j, j)] := by
 intro f
 induction f with
 | zero => intro i s l h; cases h
 | succ f ih =>
   intro i s l h
   unfold scanF at h
   split at h
   ·injection h with h; exact ⟨[], i, h.symm⟩
   ·split at h
    ·cases h
    ·exact ih _ _ _ h
    ·rename_i t n _
     cases e : scanF f (i + n) (s.drop n) with
     | error k => rw [e] at h; cases h
     | ok l2 =>
       rw [e] at h
       injection h with h
       obtain ⟨l', j, rfl⟩ := ih _ _ _ e
       exact ⟨(t, i, i + n) :: l', j, h.symm⟩
theorem scan_of_lex {s : List UInt8} {L : List Tk} (h : lex s = some L) (hs : s.length ≤ 16384) : ∃ l, scanL s = .ok l ∧ l.map (·.1) = L ++ [noTk] := by
 rw [Lx.scan_lex hs] at h
 cases e : scanL s with
 | error k => rw [e] at h; cases h
 | ok l =>
   rw [e] at h
   injection h with h
   have e2 := e
   unfold scanL at e2
   rw [if_neg (by omega)] at e2
   obtain ⟨l', j, rfl⟩ := scanF_last _ _ _ _ e2
   refine ⟨_, rfl, ?_⟩
   rw [List.dropLast_concat] at h
   rw [List.map_append, h]
   rfl
def rowT (s : List UInt8) (l : List Lx.Tok) : List PT := l.map fun x => (x.1, at_ s x.2.1, at_ s x.2.2)
theorem flat_rowT (s : List UInt8) (l : List Lx.Tok) : flatP (rowT s l) = flat s l := by
 unfold flatP rowT flat
 rw [List.flatMap_map]
 rfl
theorem rowT_len (s : List UInt8) (l : List Lx.Tok) : (rowT s l).length = l.length := List.length_map _
def ReadR (w : World) (L : List PT) (r : Except Nat (T1 × Nat)) (e : Ending) (w' : World) : Prop := match r with
 | .ok (x, _) => ∃ b, e = .returned (.tuple #[.pointer (some ⟨b, 0, none⟩), .complex .f64 0 0, .int .i64 0]) ∧ RepS (fun y => w.heap.size ≤ y) w' (.node x.1 x.2 .no) [.pointer (some ⟨b, 0, none⟩)] ∧ Below w.heap.size w w'
 | .error k => e = .returned (.tuple #[.pointer none, .complex .f64 (fl (tk L k).2.1.1) (fl (tk L k).2.1.2), .int .i64 60]) ∧ Below w.heap.size w w'
theorem row_pos {w : World} {A : Option Addr} {L : List PT} (h : RowAt w A L) {k : Nat} (hk : k < L.length) : ∃ g off, A = some ⟨g, off, none⟩ ∧ w.cell? ⟨g, off + k * 5 + 1, none⟩ = some (.complex .f64 (fl (tk L k).2.1.1) (fl (tk L k).2.1.2)) := by
 obtain ⟨⟨g, off, sp⟩, e, hlt, hc⟩ := h.reads.2 (by omega)
 have hl := flatP_len L
 have hget : ∀ m, m < L.length * 5 → ∃ u, (flatP L)[m]? = some u := fun m hm => ⟨(flatP L)[m]'(by omega), List.getElem?_eq_getElem (by omega)⟩
 have hs : sp = none := by
  obtain ⟨u, hu⟩ := hget 0 (by omega)
  have := World.cell?_spot (hc 0 u hu)
  simpa [Addr.add] using this
 subst hs
 refine ⟨g, off, e, ?_⟩
 have ht : tk L k = L[k] := by unfold tk; rw [List.getElem?_eq_getElem hk]; rfl
 have h1 := flatP_at L k 1 hk (by omega)
 rw [show (PT.vals L[k])[1]? = some (.complex .f64 (fl (tk L k).2.1.1) (fl (tk L k).2.1.2)) from by rw [ht]; rfl] at h1
 have := hc _ _ h1
 rw [show (⟨g, off, none⟩ : Addr).add (k * 5 + 1) = ⟨g, off + k * 5 + 1, none⟩ by unfold Addr.add; split <;> simp_all [Nat.add_assoc]] at this
 exact this
theorem Read_ok (s : ByteArray) {w : World} (E : EnvS w) {l : List Lx.Tok} (hl : scanL s.data.toList = .ok l) {r : Except Nat (T1 × Nat)} (hr : ∀ k, r = .error k → k < l.length)
 (HP : ∀ w A c, RowAt w A (rowT s.data.toList l) → Calls Tryz.prog 10 #[.slice A (rowT s.data.toList l).length c] w (ParU w r)) :
 Calls Tryz.prog 13 #[.string s] w (ReadR w (rowT s.data.toList l) r) := by
 have hll := Ex.scanL_len hl
 have hsz : s.data.toList.length = s.size := by simp
 have d1 := Lx.Scan_any s (by omega) E
 rw [hl] at d1
 have D1 := qh d1
 have hP := qh HP
 have HR := qh hr
 have hrl := rowT_len s.data.toList l
 have HFL := qh (flat_rowT s.data.toList l)
 clear d1 HP hr hl E
 go_enter Tryz.func13, Tryz.ntmps13
 go_wp2_with fail
 ((with_reducible refine D1.out.mono ?_); rintro e w1 ⟨g, cap, rfl, hown, hb⟩)
 have hlt := (hown.lt g rfl).2
 have HROW := qh (show RowAt w1 (some ⟨g, 0, none⟩) (rowT s.data.toList l) from ⟨by rw [HFL.out, hrl]; exact Reads.of_own hown, (fun ad e => by injection e with e; subst e; exact hlt), by omega⟩)
 have HB := qh hb
 clear hb hown D1 HFL
 cases r with
 | ok r =>
   obtain ⟨x, j⟩ := r
   have D2 := qh (hrl ▸ hP.out w1 _ cap HROW.out)
   clear hP
   go_wp2_with fail
   ((with_reducible refine D2.out.mono ?_); rintro e w2 ⟨b, rfl, hr, hb⟩)
   have HB2 := qh (HB.out.trans (hb.mono HB.out.size))
   have HX := qh (hr.more (S' := fun y => w.heap.size ≤ y) fun y hy _ => Nat.le_trans HB.out.size hy)
   clear hb hr D2
   go_wp2
   go_ret3
   exact ⟨b, rfl, HX.out, HB2.out⟩
 | error k =>
   have D2 := qh (hrl ▸ hP.out w1 _ cap HROW.out)
   have hk := HR.out k rfl
   clear hP HR
   go_wp2_with fail
   ((with_reducible refine D2.out.mono ?_); rintro e w2 ⟨rfl, hb⟩)
   have HB2 := qh (HB.out.trans (hb.mono HB.out.size))
   obtain ⟨g', off, e0, c1⟩ := row_pos (HROW.out.below hb) (k := k) (by omega)
   injection e0 with e0; injection e0 with e1 e2 e3
   subst e1 e2
   clear hb D2 e3
   simp only [Nat.zero_add] at c1
   have hIW : IntKind.i64.wrap ((l.length : Int) - 1) = (l.length : Int) - 1 := IntWalk.i64_in _ (by omega)
   have hk1 : (k : Int) ≤ (l.length : Int) - 1 := by omega
   have hk2 : ¬ ((l.length : Int) - 1 < (k : Int)) := by omega
   have hk3 : (k : Int) < (l.length : Int) := by omega
   have hk4 : ¬ ((k : Int) < 0) := by omega
   have hmin : (min (k : Int) ((l.length : Int) - 1)).toNat = k := by omega
   have hk5 : ¬ (min (k : Int) ((l.length : Int) - 1) < 0) := by omega
   have hk6 : min (k : Int) ((l.length : Int) - 1) < (l.length : Int) := by omega
   go_wp2
   go_region
   all_goals
    go_wp2
    go_ret3
    exact ⟨rfl, HB2.out.drew⟩
end Go.Proofs.YtkemhmfdooghkaaGreatDoor.Un
namespace Go.Proofs.YtkemhmfdooghkaaGreatDoor.Un
open Go.RowKit
open Tr (Nd Fo RepS RepN Rep cellsN)
open Lx (Tk noTk Blk TokAt scanL scanF flat scanEnd at_ lex EnvS)
open Fl
open Ex
open St (TkS)
open De (blockF defF)
theorem fin_parse {g : Nat} {L : List PT} {j : Nat} {bl : Par T1} {df : Par (List T1)} : parseG g bl df L j = finR L (unitG g bl df L j) := by
 unfold parseG bindP finR posP
 cases unitG g bl df L j with
 | error k => rfl
 | ok r =>
   obtain ⟨x, i⟩ := r
   show (if isFin (tk L i) = true then retP x else failP) L i = if isFin (tk L i) = true then .ok (x, i) else .error i
   split <;> rfl
theorem Parse_all {g : Nat} {w : World} {A : Option Addr} {L : List PT} (h : RowAt w A L) (hg : L.length < g) (c : Nat) : Calls Tryz.prog 10 #[.slice A L.length c] w (ParU w (parseU g L 0)) := by
 have hlen := h.len
 rw [show parseU g L 0 = finR L (unitG g (blockF g g) (defF g) L 0) from fin_parse]
 have hg2u := g2_unit (g := g) (De.g2_blockF (g := g) g) (De.g2_defF (g := g))
 refine Parse_any h c (fun x j hu => ?_) fun w0 br ht hw => ?_
 ·have := St.g2_max hg2u L 0
  rw [hu] at this
  simp only [posE] at this
  omega
 ·exact unit2_any ht hg (De.g2_blockF g) De.g2_defF (fun i hi wx hx => De.Block_any hx hg c hi) (fun i hi wx hx => De.Decls_any hx hg c hi) (fun i l j hi he => Nat.le_trans (De.def_len hi he) (by omega)) 0 (Nat.zero_le _) w0 hw
section
variable {L : List PT}
theorem g2_parse (g : Nat) : St.Good2 (parseU g) :=
 St.g2_bind (g2_unit (De.g2_blockF g) De.g2_defF) fun x => by
  refine ⟨fun L i => ?_, fun L i h => ?_, fun L m i him hm => ?_⟩
  ·unfold posP; dsimp only; split <;> exact Nat.le_refl _
  ·unfold posP; dsimp only; split <;> rfl
  ·unfold posP
   dsimp only
   rcases Nat.lt_or_ge i m with h1 | h1
   ·rw [tk_take h1]
    split
    ·exact .inl ⟨rfl, Nat.le_of_lt h1⟩
    ·exact .inl ⟨rfl, h1⟩
   ·obtain rfl : i = m := by omega
    refine .inr ⟨?_, ?_⟩
    ·split <;> rfl
    ·split <;> exact Nat.le_refl _
theorem parse_end {g m : Nat} (hm : L.length = m + 1) (he : (tk L m).1 = noTk) {k : Nat} (h : parseU g L 0 = .error k) : k ≤ m := by
 have ha : Ev.Alk (L.take m) L := by
  intro i
  rcases Nat.lt_or_ge i m with h1 | h1
  ·rw [tk_take h1]
  ·have h2 : tk (L.take m) i = noPT := tk_end (by rw [Ex.take_len (by omega)]; exact h1)
   rw [h2]
   rcases Nat.eq_or_lt_of_le h1 with rfl | h3
   ·rw [he]; rfl
   ·rw [tk_end (by omega)]
 have h1 := Ev.e_parse g (L.take m) L ha 0
 have h2 := St.g2_le (g2_parse g) (L := L.take m) (i := 0) (Nat.zero_le _)
 rw [h] at h1
 rw [Ex.take_len (by omega)] at h2
 cases e : parseU g (L.take m) 0 with
 | error k' => rw [e] at h1 h2; have h3 : k' = k := h1; have h4 : k' ≤ m := h2; omega
 | ok r => rw [e] at h1; exact h1.elim
end
theorem Read_all (s : ByteArray) {w : World} (E : EnvS w) {l : List Lx.Tok} (hl : scanL s.data.toList = .ok l) {g : Nat} (hg : l.length < g) :
 Calls Tryz.prog 13 #[.string s] w (ReadR w (rowT s.data.toList l) (parseU g (rowT s.data.toList l) 0)) := by
 have hrl := rowT_len s.data.toList l
 refine Read_ok s E hl (fun k hk => ?_) fun w A c h => Parse_all h (by omega) c
 unfold scanL at hl
 split at hl
 ·cases hl
 obtain ⟨l', j, rfl⟩ := scanF_last _ _ _ _ hl
 rw [List.length_append, List.length_singleton] at hrl ⊢
 have := parse_end hrl (by unfold tk; rw [List.getElem?_eq_getElem (by omega)]; simp [rowT]) hk
 omega
theorem Read_err (s : ByteArray) {w : World} (E : EnvS w) (hs : s.size ≤ 1000000) {i k : Nat} (hl : scanL s.data.toList = .error (i, k)) :
 Calls Tryz.prog 13 #[.string s] w (fun e w' => ∃ a b, e = .returned (.tuple #[.pointer none, .complex .f64 a b, .int .i64 k]) ∧ Below w.heap.size w w') := by
 have d1 := Lx.Scan_any s (by omega) E
 rw [hl] at d1
 have D1 := qh d1
 have k0 : ((k : Int) != 0) = true := by
  have := Ex.scanL_err hl
  simp only [bne_iff_ne, ne_eq]
  omega
 clear d1 hl E
 go_enter Tryz.func13, Tryz.ntmps13
 go_wp2_with fail
 ((with_reducible refine D1.out.mono ?_); rintro e w1 ⟨rfl, hb⟩)
 have HB := qh hb
 clear hb
 go_wp2
 go_ret3
 exact ⟨_, _, rfl, HB.out⟩
end Go.Proofs.YtkemhmfdooghkaaGreatDoor.Un
