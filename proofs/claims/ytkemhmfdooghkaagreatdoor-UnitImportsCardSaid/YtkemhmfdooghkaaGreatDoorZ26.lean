/- A part of the proof: N8, L1. -/
import Derived.Test.YtkemhmfdooghkaaGreatDoorZ1
import Derived.Test.YtkemhmfdooghkaaGreatDoorZ25
import Derived.Defers
import Derived.Recover
import Derived.Laws.Pointers
import Derived.RegionTactic
import Derived.Deep.RegionLaw
import Derived.Test.YtkemhmfdooghkaaGreatDoorZ3
set_option linter.unusedSimpArgs false
set_option linter.unusedVariables false

section
namespace Go.Proofs.YtkemhmfdooghkaaGreatDoor.Un
open Go.RowKit
open Tr (Nd Fo RepS RepN Rep cellsN)
open Lx (Tk noTk Blk run_store_complexL TokAt)
open Fl
open Ex
open St (TkS g2_max Good2 isNm KG KN new_kg new_0 kid_facts one_ptr sSem sCol sEnd isWd6 ret_ bind_err need_n)
open De (LG new_leaf new_lg run_field0)
attribute [local go_sem] run_store_complexL run_field0 run_field1 run_field3
theorem catch_idle (p q r : Addr) (w : World) :
 CallsD Tryz.prog 19 #[.pointer (some p), .pointer (some q), .pointer (some r)] .returning w fun e u' w' => e = .returned (.tuple #[]) ∧ u' = .returning ∧ w' = w := by
 refine callsD_of_wpS Tryz.func19 rfl fun c₀ cs hu => ?_
 apply wpS_seq
 apply wpS_region
 simp [wpOpsS, go_sem, recoverD, hu, Tryz.ntmps19, Exit.thenS]
 apply wpS_seq
 apply wpS_region
 simp [wpOpsS, go_sem, Exit.thenS, Array.replicate]
 refine wpS_cond (t := false) (by simp [Act.eval, Array.replicate]) ?_
 simp only [Bool.false_eq_true, if_false]
 refine wpS_of_wp (wp_skip ?_)
 cases c₀
 simp_all [bodyPostS, results, Tryz.results19]
theorem run_bad (k : Int) (w : World) : (Instr.typeAssert (.iface 62 (.int .i64 k)) 20 62 false).run Tryz.prog w = .ok (.int .i64 k) w := by
 kernel_rfl
theorem catch_bad (b1 b2 b3 : Nat) (v1 : Option Addr) (k : Nat) (w : World)
 (h1 : w.cell? ⟨b1, 0, none⟩ = some (.pointer v1)) (h2 : w.cell? ⟨b2, 0, none⟩ = some (.int .i64 0)) (h3 : w.cell? ⟨b3, 0, none⟩ = some (.int .i64 0)) (f1 : w.frozen? ⟨b1, 0, none⟩ = false) (f2 : w.frozen? ⟨b2, 0, none⟩ = false) (f3 : w.frozen? ⟨b3, 0, none⟩ = false)
 (n12 : b1 < b2) (n23 : b2 < b3) :
 CallsD Tryz.prog 19 #[.pointer (some ⟨b1, 0, none⟩), .pointer (some ⟨b2, 0, none⟩), .pointer (some ⟨b3, 0, none⟩)] (.panicking [{ v := .iface 62 (.int .i64 k), recovered := false }]) w fun e u' w' =>
  e = .returned (.tuple #[]) ∧ u' = .panicking [{ v := .iface 62 (.int .i64 k), recovered := true }] ∧ w' = (((w.setCell ⟨b1, 0, none⟩ (.pointer none)).setCell ⟨b2, 0, none⟩ (.int .i64 k)).setCell ⟨b3, 0, none⟩ (.int .i64 60)).drew := by
 refine callsD_of_wpS Tryz.func19 rfl fun c₀ cs hu => ?_
 apply wpS_seq
 apply wpS_region
 simp [wpOpsS, go_sem, recoverD, hu, Tryz.ntmps19, Exit.thenS]
 apply wpS_seq
 apply wpS_region
 simp [wpOpsS, go_sem, Exit.thenS, Array.replicate]
 refine wpS_cond (t := true) (by simp [Act.eval, Array.replicate]) ?_
 simp only [if_true]
 refine wpS_of_wp ?_
 have hne12 : ¬ b1 = b2 := by omega
 have hne13 : ¬ b1 = b3 := by omega
 have hne23 : ¬ b2 = b3 := by omega
 have hne21 : ¬ b2 = b1 := by omega
 have hne31 : ¬ b3 = b1 := by omega
 have hne32 : ¬ b3 = b2 := by omega
 have hta := run_bad k
 go_region
 all_goals
  simp [bodyPostS, results, Tryz.results19]
theorem par_world (w : World) (A : Option Addr) (c : Nat) (L : List PT) (i : Nat) : Below w.heap.size w ((((w.alloc (.cells #[.pointer none] 31)).alloc (.cells #[.int .i64 0] 3)).alloc (.cells #[.int .i64 0] 32)).alloc (.cells #[.slice A L.length c, .int .i64 i] 65)) ∧ ((((w.alloc (.cells #[.pointer none] 31)).alloc (.cells #[.int .i64 0] 3)).alloc (.cells #[.int .i64 0] 32)).alloc (.cells #[.slice A L.length c, .int .i64 i] 65)).heap.size = w.heap.size + 4 ∧ Blk ((((w.alloc (.cells #[.pointer none] 31)).alloc (.cells #[.int .i64 0] 3)).alloc (.cells #[.int .i64 0] 32)).alloc (.cells #[.slice A L.length c, .int .i64 i] 65)) w.heap.size 31 #[.pointer none] ∧ Blk ((((w.alloc (.cells #[.pointer none] 31)).alloc (.cells #[.int .i64 0] 3)).alloc (.cells #[.int .i64 0] 32)).alloc (.cells #[.slice A L.length c, .int .i64 i] 65)) (w.heap.size + 1) 3 #[.int .i64 0] ∧ Blk ((((w.alloc (.cells #[.pointer none] 31)).alloc (.cells #[.int .i64 0] 3)).alloc (.cells #[.int .i64 0] 32)).alloc (.cells #[.slice A L.length c, .int .i64 i] 65)) (w.heap.size + 1 + 1) 32 #[.int .i64 0] ∧ Blk ((((w.alloc (.cells #[.pointer none] 31)).alloc (.cells #[.int .i64 0] 3)).alloc (.cells #[.int .i64 0] 32)).alloc (.cells #[.slice A L.length c, .int .i64 i] 65)) (w.heap.size + 1 + 1 + 1) 65 #[.slice A L.length c, .int .i64 i] := by
 have hn : ∀ (W : World) (o : Obj) (m : Nat), W.heap.size = m → (W.alloc o).heap[m]? = some o := fun W o m h => by rw [← h]; exact heap_alloc_new W o
 have ho : ∀ (W : World) (o o' : Obj) (m : Nat), W.heap[m]? = some o' → (W.alloc o).heap[m]? = some o' := fun W o o' m h => (Below.heap_alloc W o m (obj_lt h)).trans h
 have ha : ∀ {W : World} (h : Below w.heap.size w W) (o : Obj), Below w.heap.size w (W.alloc o) := fun h o => h.alloc h.size o
 refine ⟨ha (ha (ha (ha (Below.refl _ _) _) _) _) _, by simp [World.size_alloc], ?_, ?_, ?_, ?_⟩
 ·exact ho _ _ _ _ (ho _ _ _ _ (ho _ _ _ _ (hn _ _ _ rfl)))
 ·exact ho _ _ _ _ (ho _ _ _ _ (hn _ _ _ (by simp [World.size_alloc])))
 ·exact ho _ _ _ _ (hn _ _ _ (by simp [World.size_alloc]))
 ·exact hn _ _ _ (by simp [World.size_alloc])
def ParU (w : World) (r : Except Nat (T1 × Nat)) (e : Ending) (w' : World) : Prop := match r with
 | .ok (x, _) => ∃ b, e = .returned (.tuple #[.pointer (some ⟨b, 0, none⟩), .int .i64 0, .int .i64 0]) ∧ RepS (fun y => w.heap.size ≤ y) w' (.node x.1 x.2 .no) [.pointer (some ⟨b, 0, none⟩)] ∧ Below w.heap.size w w'
 | .error k => e = .returned (.tuple #[.pointer none, .int .i64 k, .int .i64 60]) ∧ Below w.heap.size w w'
def finR (L : List PT) : Except Nat (T1 × Nat) → Except Nat (T1 × Nat)
 | .ok (x, j) => if isFin (tk L j) = true then .ok (x, j) else .error j
 | .error k => .error k
theorem fin_y {L : List PT} {x : T1} {j : Nat} (h : isFin (tk L j) = true) : finR L (.ok (x, j)) = .ok (x, j) := if_pos h
theorem fin_n {L : List PT} {x : T1} {j : Nat} (h : isFin (tk L j) = false) : finR L (.ok (x, j)) = .error j := if_neg (by rw [h]; simp)
set_option maxRecDepth 100000 in set_option maxHeartbeats 6400000 in
theorem Parse_any {w : World} {A : Option Addr} {L : List PT} (h : RowAt w A L) (c : Nat) {ru : Except Nat (T1 × Nat)} (hj : ∀ x j, ru = .ok (x, j) → j ≤ 60000)
 (HF0 : ∀ w0 br, TkS w0 br A L → PInv w0 w0 br A c L 0 → Calls Tryz.prog 20 #[.pointer (some ⟨br, 0, none⟩)] w0 (TreeR w0.heap.size w0 w0 br A c L ru)) :
 Calls Tryz.prog 10 #[.slice A L.length c] w (ParU w (finR L ru)) := by
 have HF := qh HF0
 have HJ := qh hj
 have hL := h.len
 have hA := h.reads
 have hlow := h.low
 clear h HF0 hj
 have hmf : ∀ (fn : Fn) (first cap : Array Value) (w : World), (Instr.makeFunc fn first cap).run Tryz.prog w = .ok (.func fn first cap) w := fun _ _ _ _ => rfl
 have HA := qh hA
 clear hA
 have HPW := qh (par_world w A c L 0)
 go_enter_defers Tryz.func10, Tryz.ntmps10
 go_wp2_with fail
 obtain ⟨hb0, hs0, k1, k2, k3, kr⟩ := HPW.out
 clear HPW
 change Calls _ _ _ ((((w.alloc (.cells #[.pointer none] 31)).alloc (.cells #[.int .i64 0] 3)).alloc (.cells #[.int .i64 0] 32)).alloc (.cells #[.slice A L.length c, .int .i64 (0 : Nat)] 65)) _
 generalize ((((w.alloc (.cells #[.pointer none] 31)).alloc (.cells #[.int .i64 0] 3)).alloc (.cells #[.int .i64 0] 32)).alloc (.cells #[.slice A L.length c, .int .i64 (0 : Nat)] 65)) = w0 at *
 have HT : Hid (TkS w0 (w.heap.size + 1 + 1 + 1) A L) := qh ⟨⟨(HA.out.below hb0).more hb0.size, by omega, fun ad e => by have := hlow ad e; omega, hL⟩, fun ad e => by have := hlow ad e; have := hb0.size; omega⟩
 have H := qh (PG.start (⟨kr, ⟨rfl, rfl, rfl, Nat.le_refl _, fun _ _ _ => rfl⟩⟩ : PInv w0 w0 (w.heap.size + 1 + 1 + 1) A c L 0))
 have d1 := HF.out w0 _ HT.out H.out.1
 have hbz : w.heap.size + 1 + 1 + 1 < w0.heap.size := by omega
 have K := qh (And.intro k1 (And.intro k2 k3))
 have HB0 := qh hb0
 clear kr k1 k2 k3 hb0
 cases ru with
 | error k =>
   have D1 := qh d1
   clear d1
   ((with_reducible refine D1.out.mono ?_); rintro e wv ⟨rfl, hg⟩)
   have G := qh (And.intro (K.out.1.grown hg (by intro e; injection e with e; omega)) (And.intro (K.out.2.1.grown hg (by intro e; injection e with e; omega)) (K.out.2.2.grown hg (by intro e; injection e with e; omega))))
   have HBV := qh (Lx.below_grown HB0.out hg (fun k e => by injection e with e; omega) HB0.out.size)
   clear hg
   obtain ⟨g1, g2, g3⟩ := G.out
   refine leaves_cons (f := 19) (args := #[.pointer (some ⟨w.heap.size, 0, none⟩), .pointer (some ⟨w.heap.size + 1, 0, none⟩), .pointer (some ⟨w.heap.size + 1 + 1, 0, none⟩)]) (by simp) (by simp [go_sem]) ?_
   refine (catch_bad w.heap.size (w.heap.size + 1) (w.heap.size + 1 + 1) none k wv (g1.cell 0) (g2.cell 0) (g3.cell 0) (g1.frozen 0) (g2.frozen 0) (g3.frozen 0) (by omega) (by omega)).mono ?_
   rintro e u' w'' ⟨rfl, rfl, rfl⟩
   have z1 := ((((g1.set_ 0 (.pointer none)).far (p := ⟨w.heap.size + 1, 0, none⟩) (show w.heap.size ≠ w.heap.size + 1 by omega) (.int .i64 k)).far (p := ⟨w.heap.size + 1 + 1, 0, none⟩) (show w.heap.size ≠ w.heap.size + 1 + 1 by omega) (.int .i64 60)).drewN 1).cell 0
   have z2 := ((((g2.far (p := ⟨w.heap.size, 0, none⟩) (show w.heap.size + 1 ≠ w.heap.size by omega) (.pointer none)).set_ 0 (.int .i64 k)).far (p := ⟨w.heap.size + 1 + 1, 0, none⟩) (show w.heap.size + 1 ≠ w.heap.size + 1 + 1 by omega) (.int .i64 60)).drewN 1).cell 0
   have z3 := ((((g3.far (p := ⟨w.heap.size, 0, none⟩) (show w.heap.size + 1 + 1 ≠ w.heap.size by omega) (.pointer none)).far (p := ⟨w.heap.size + 1, 0, none⟩) (show w.heap.size + 1 + 1 ≠ w.heap.size + 1 by omega) (.int .i64 k)).set_ 0 (.int .i64 60)).drewN 1).cell 0
   have hbz2 : Below w.heap.size w ((((wv.setCell ⟨w.heap.size, 0, none⟩ (.pointer none)).setCell ⟨w.heap.size + 1, 0, none⟩ (.int .i64 k)).setCell ⟨w.heap.size + 1 + 1, 0, none⟩ (.int .i64 60)).drewN 1) := Lx.below_drewN (((HBV.out.setCell (Nat.le_refl _) _).setCell (Nat.le_succ _) _).setCell (show w.heap.size ≤ w.heap.size + 1 + 1 by omega) _) 1
   have HBZ := qh hbz2
   clear g1 g2 g3 hbz2
   change Leaves _ _ _ _ _ _ ((((wv.setCell ⟨w.heap.size, 0, none⟩ (.pointer none)).setCell ⟨w.heap.size + 1, 0, none⟩ (.int .i64 k)).setCell ⟨w.heap.size + 1 + 1, 0, none⟩ (.int .i64 60)).drewN 1)
   generalize (((wv.setCell ⟨w.heap.size, 0, none⟩ (.pointer none)).setCell ⟨w.heap.size + 1, 0, none⟩ (.int .i64 k)).setCell ⟨w.heap.size + 1 + 1, 0, none⟩ (.int .i64 60)).drewN 1 = z at *
   have z1' : z.cell? ⟨w.heap.size, 0, none⟩ = some (.pointer none) := by simpa using z1
   have z2' : z.cell? ⟨w.heap.size + 1, 0, none⟩ = some (.int .i64 k) := by simpa using z2
   have z3' : z.cell? ⟨w.heap.size + 1 + 1, 0, none⟩ = some (.int .i64 60) := by simpa using z3
   clear z1 z2 z3
   simp [Leaves, settle, results, Tryz.results10, go_sem, z1', z2', z3']
   exact ⟨rfl, HBZ.out⟩
 | ok r =>
   obtain ⟨x, j⟩ := r
   have hj := HJ.out _ _ rfl
   have D1 := qh d1
   clear d1
   ((with_reducible refine D1.out.mono ?_); rintro e wv ⟨b, rfl, hp, hg, hr⟩)
   have g1 := K.out.1.grown hg (by intro e; injection e with e; omega)
   have g2 := K.out.2.1.grown hg (by intro e; injection e with e; omega)
   have g3 := K.out.2.2.grown hg (by intro e; injection e with e; omega)
   have m1 := g1.cell 0
   have f1 := g1.frozen 0
   have h1l := g1.lt
   simp only [List.getElem?_toArray, List.getElem?_cons_zero] at m1
   have G := qh (And.intro (g1.set_ 0 (.pointer (some ⟨b, 0, none⟩))) (And.intro (g2.far (p := ⟨w.heap.size, 0, none⟩) (show w.heap.size + 1 ≠ w.heap.size by omega) (.pointer (some ⟨b, 0, none⟩))) (g3.far (p := ⟨w.heap.size, 0, none⟩) (show w.heap.size + 1 + 1 ≠ w.heap.size by omega) (.pointer (some ⟨b, 0, none⟩)))))
   have hqr := hp.row.far (p := ⟨w.heap.size, 0, none⟩) (show w.heap.size + 1 + 1 + 1 ≠ w.heap.size by omega) (.pointer (some ⟨b, 0, none⟩))
   have HBV := qh ((Lx.below_grown HB0.out hg (fun k e => by injection e with e; omega) HB0.out.size).setCell (p := ⟨w.heap.size, 0, none⟩) (Nat.le_refl _) (.pointer (some ⟨b, 0, none⟩)))
   have HR := qh ((hr.more (S' := fun y => w.heap.size + 4 ≤ y) fun y hy _ => by omega).keep (S' := fun y => w.heap.size + 4 ≤ y) (w' := wv.setCell ⟨w.heap.size, 0, none⟩ (.pointer (some ⟨b, 0, none⟩))) (by rw [World.size_setCell]; exact Nat.le_refl _) (fun y hy _ => Below.heap_setCell _ ⟨w.heap.size, 0, none⟩ _ _ (show y ≠ w.heap.size by omega)) (fun y h _ => h))
   have HQR := qh hqr
   clear hp hg hr g1 g2 g3 hqr K D1 H HT
   have HW : Hid (∀ wz, wv.setCell ⟨w.heap.size, 0, none⟩ (.pointer (some ⟨b, 0, none⟩)) = wz → Calls Tryz.prog 21 #[.pointer (some ⟨w.heap.size + 1 + 1 + 1, 0, none⟩)] wz fun e w' => e = .returned (PT.val (tk L j)) ∧ Below wz.heap.size wz w') := qh (fun wz hz => by
    subst hz
    have hbv := HBV.out
    have ht : TkS (wv.setCell ⟨w.heap.size, 0, none⟩ (.pointer (some ⟨b, 0, none⟩))) (w.heap.size + 1 + 1 + 1) A L := ⟨⟨(HA.out.below hbv).more hbv.size, by have := HQR.out.lt; omega, fun ad e => by have := hlow ad e; omega, hL⟩, fun ad e => by have := hlow ad e; have := hbv.size; omega⟩
    exact now_any ht.toks (i := j) (by omega) _ (⟨HQR.out, ⟨rfl, rfl, rfl, Nat.le_refl _, fun _ _ _ => rfl⟩⟩ : PInv _ _ (w.heap.size + 1 + 1 + 1) A c L j))
   obtain ⟨k_p, p1, p2, q3_p, q4_p, t_p, n_p, e1, e2⟩ := val_form (tk L j)
   have N1 := qh (e2 ▸ HW.out _ rfl)
   have hfin : isFin (tk L j) = decide (k_p = 0) := by rw [e1]; rfl
   clear HW e1 e2
   go_wp2_with fail
   ((with_reducible refine N1.out.mono ?_); rintro e wx ⟨rfl, hb⟩)
   have hb' := hb
   rw [World.size_setCell] at hb'
   have G := qh (And.intro (G.out.1.below hb G.out.1.lt) (And.intro (G.out.2.1.below hb G.out.2.1.lt) (G.out.2.2.below hb G.out.2.2.lt)))
   have HR := qh (HR.out.below hb)
   have HBV := qh (HBV.out.trans (hb.mono HBV.out.size))
   have HQR := qh (HQR.out.below hb HQR.out.lt)
   clear hb hb' N1 m1 f1
   by_cases hk0 : k_p = 0
   ·have hk0' : (k_p : Int) = 0 := by omega
    have FY := qh (fin_y (x := x) (hfin.trans (decide_eq_true hk0)))
    obtain ⟨g1, g2, g3⟩ := G.out
    have m1 := g1.cell 0
    have m2 := g2.cell 0
    have m3 := g3.cell 0
    have f1 := g1.frozen 0
    have f2 := g2.frozen 0
    have f3 := g3.frozen 0
    have hlx := g3.lt
    simp only [List.getElem?_toArray, List.getElem?_cons_zero] at m1 m2 m3
    clear g1 g2 g3
    go_wp2_with fail
    clear m1 m2 m3 f1 f2 f3
    obtain ⟨g1, g2, g3⟩ := G.out
    refine leaves_cons (f := 19) (args := #[.pointer (some ⟨w.heap.size, 0, none⟩), .pointer (some ⟨w.heap.size + 1, 0, none⟩), .pointer (some ⟨w.heap.size + 1 + 1, 0, none⟩)]) (by simp) (by simp [go_sem]) ?_
    refine (catch_idle ⟨w.heap.size, 0, none⟩ ⟨w.heap.size + 1, 0, none⟩ ⟨w.heap.size + 1 + 1, 0, none⟩ _).mono ?_
    rintro e u' w'' ⟨rfl, rfl, rfl⟩
    have z1 := (((g1.set_ 0 (.pointer (some ⟨b, 0, none⟩))).far (p := ⟨w.heap.size + 1, 0, none⟩) (show w.heap.size ≠ w.heap.size + 1 by omega) (.int .i64 0)).far (p := ⟨w.heap.size + 1 + 1, 0, none⟩) (show w.heap.size ≠ w.heap.size + 1 + 1 by omega) (.int .i64 0)).cell 0
    have z2 := (((g2.far (p := ⟨w.heap.size, 0, none⟩) (show w.heap.size + 1 ≠ w.heap.size by omega) (.pointer (some ⟨b, 0, none⟩))).set_ 0 (.int .i64 0)).far (p := ⟨w.heap.size + 1 + 1, 0, none⟩) (show w.heap.size + 1 ≠ w.heap.size + 1 + 1 by omega) (.int .i64 0)).cell 0
    have z3 := (((g3.far (p := ⟨w.heap.size, 0, none⟩) (show w.heap.size + 1 + 1 ≠ w.heap.size by omega) (.pointer (some ⟨b, 0, none⟩))).far (p := ⟨w.heap.size + 1, 0, none⟩) (show w.heap.size + 1 + 1 ≠ w.heap.size + 1 by omega) (.int .i64 0)).set_ 0 (.int .i64 0)).cell 0
    have HBZ := qh (((HBV.out.setCell (p := ⟨w.heap.size, 0, none⟩) (Nat.le_refl _) (.pointer (some ⟨b, 0, none⟩))).setCell (p := ⟨w.heap.size + 1, 0, none⟩) (Nat.le_succ _) (.int .i64 0)).setCell (p := ⟨w.heap.size + 1 + 1, 0, none⟩) (show w.heap.size ≤ w.heap.size + 1 + 1 by omega) (.int .i64 0))
    have h1 := HR.out.keep (S' := fun y => w.heap.size + 4 ≤ y) (w' := wx.setCell ⟨w.heap.size, 0, none⟩ (.pointer (some ⟨b, 0, none⟩))) (Nat.le_of_eq (World.size_setCell _ _ _).symm) (fun y hy _ => Below.heap_setCell _ ⟨w.heap.size, 0, none⟩ _ _ (show y ≠ w.heap.size by omega)) (fun y h _ => h)
    have h2 := h1.keep (S' := fun y => w.heap.size + 4 ≤ y) (w' := (wx.setCell ⟨w.heap.size, 0, none⟩ (.pointer (some ⟨b, 0, none⟩))).setCell ⟨w.heap.size + 1, 0, none⟩ (.int .i64 0)) (Nat.le_of_eq (World.size_setCell _ _ _).symm) (fun y hy _ => Below.heap_setCell _ ⟨w.heap.size + 1, 0, none⟩ _ _ (show y ≠ w.heap.size + 1 by omega)) (fun y h _ => h)
    have h3 := h2.keep (S' := fun y => w.heap.size + 4 ≤ y) (w' := (((wx.setCell ⟨w.heap.size, 0, none⟩ (.pointer (some ⟨b, 0, none⟩))).setCell ⟨w.heap.size + 1, 0, none⟩ (.int .i64 0)).setCell ⟨w.heap.size + 1 + 1, 0, none⟩ (.int .i64 0))) (Nat.le_of_eq (World.size_setCell _ _ _).symm) (fun y hy _ => Below.heap_setCell _ ⟨w.heap.size + 1 + 1, 0, none⟩ _ _ (show y ≠ w.heap.size + 1 + 1 by omega)) (fun y h _ => h)
    have HRZ := qh (h3.more (S' := fun y => w.heap.size ≤ y) fun y hy _ => by omega)
    clear g1 g2 g3 h1 h2 h3
    generalize (((wx.setCell ⟨w.heap.size, 0, none⟩ (.pointer (some ⟨b, 0, none⟩))).setCell ⟨w.heap.size + 1, 0, none⟩ (.int .i64 0)).setCell ⟨w.heap.size + 1 + 1, 0, none⟩ (.int .i64 0)) = z at *
    have z1' : z.cell? ⟨w.heap.size, 0, none⟩ = some (.pointer (some ⟨b, 0, none⟩)) := by simpa using z1
    have z2' : z.cell? ⟨w.heap.size + 1, 0, none⟩ = some (.int .i64 0) := by simpa using z2
    have z3' : z.cell? ⟨w.heap.size + 1 + 1, 0, none⟩ = some (.int .i64 0) := by simpa using z3
    clear z1 z2 z3
    simp [Leaves, settle, results, Tryz.results10, go_sem, z1', z2', z3']
    rw [FY.out]
    exact ⟨b, rfl, HRZ.out, HBZ.out⟩
   ·have hk0' : ¬ (k_p : Int) = 0 := by omega
    have FY := qh (fin_n (x := x) (hfin.trans (decide_eq_false hk0)))
    have mr := HQR.out.cell 1
    simp only [List.getElem?_toArray, List.getElem?_cons_zero, List.getElem?_cons_succ] at mr
    clear HR HQR
    go_wp2_with fail
    generalize wx = wv at *
    obtain ⟨g1, g2, g3⟩ := G.out
    refine leaves_cons (f := 19) (args := #[.pointer (some ⟨w.heap.size, 0, none⟩), .pointer (some ⟨w.heap.size + 1, 0, none⟩), .pointer (some ⟨w.heap.size + 1 + 1, 0, none⟩)]) (by simp) (by simp [go_sem]) ?_
    refine (catch_bad w.heap.size (w.heap.size + 1) (w.heap.size + 1 + 1) (some ⟨b, 0, none⟩) j wv (g1.cell 0) (g2.cell 0) (g3.cell 0) (g1.frozen 0) (g2.frozen 0) (g3.frozen 0) (by omega) (by omega)).mono ?_
    rintro e u' w'' ⟨rfl, rfl, rfl⟩
    have z1 := ((((g1.set_ 0 (.pointer none)).far (p := ⟨w.heap.size + 1, 0, none⟩) (show w.heap.size ≠ w.heap.size + 1 by omega) (.int .i64 j)).far (p := ⟨w.heap.size + 1 + 1, 0, none⟩) (show w.heap.size ≠ w.heap.size + 1 + 1 by omega) (.int .i64 60)).drewN 1).cell 0
    have z2 := ((((g2.far (p := ⟨w.heap.size, 0, none⟩) (show w.heap.size + 1 ≠ w.heap.size by omega) (.pointer none)).set_ 0 (.int .i64 j)).far (p := ⟨w.heap.size + 1 + 1, 0, none⟩) (show w.heap.size + 1 ≠ w.heap.size + 1 + 1 by omega) (.int .i64 60)).drewN 1).cell 0
    have z3 := ((((g3.far (p := ⟨w.heap.size, 0, none⟩) (show w.heap.size + 1 + 1 ≠ w.heap.size by omega) (.pointer none)).far (p := ⟨w.heap.size + 1, 0, none⟩) (show w.heap.size + 1 + 1 ≠ w.heap.size + 1 by omega) (.int .i64 j)).set_ 0 (.int .i64 60)).drewN 1).cell 0
    have hbz2 : Below w.heap.size w ((((wv.setCell ⟨w.heap.size, 0, none⟩ (.pointer none)).setCell ⟨w.heap.size + 1, 0, none⟩ (.int .i64 j)).setCell ⟨w.heap.size + 1 + 1, 0, none⟩ (.int .i64 60)).drewN 1) := Lx.below_drewN (((HBV.out.setCell (Nat.le_refl _) _).setCell (Nat.le_succ _) _).setCell (show w.heap.size ≤ w.heap.size + 1 + 1 by omega) _) 1
    have HBZ := qh hbz2
    clear g1 g2 g3 hbz2
    change Leaves _ _ _ _ _ _ ((((wv.setCell ⟨w.heap.size, 0, none⟩ (.pointer none)).setCell ⟨w.heap.size + 1, 0, none⟩ (.int .i64 j)).setCell ⟨w.heap.size + 1 + 1, 0, none⟩ (.int .i64 60)).drewN 1)
    generalize (((wv.setCell ⟨w.heap.size, 0, none⟩ (.pointer none)).setCell ⟨w.heap.size + 1, 0, none⟩ (.int .i64 j)).setCell ⟨w.heap.size + 1 + 1, 0, none⟩ (.int .i64 60)).drewN 1 = z at *
    have z1' : z.cell? ⟨w.heap.size, 0, none⟩ = some (.pointer none) := by simpa using z1
    have z2' : z.cell? ⟨w.heap.size + 1, 0, none⟩ = some (.int .i64 j) := by simpa using z2
    have z3' : z.cell? ⟨w.heap.size + 1 + 1, 0, none⟩ = some (.int .i64 60) := by simpa using z3
    clear z1 z2 z3
    simp [Leaves, settle, results, Tryz.results10, go_sem, z1', z2', z3']
    rw [FY.out]
    exact ⟨rfl, HBZ.out⟩
end Go.Proofs.YtkemhmfdooghkaaGreatDoor.Un
end

section
namespace Go.Proofs.YtkemhmfdooghkaaGreatDoor.Lx
open Go.RowKit
open Pl Fl
theorem u8_eqI (c : UInt8) (k : Nat) (h : k < 256) : ((c.toNat : Int) == (k : Int)) = (c == UInt8.ofNat k) := by
 rw [Bool.eq_iff_iff, beq_iff_eq, beq_iff_eq]
 constructor
 ·intro e; apply UInt8.toNat_inj.1; rw [UInt8.toNat_ofNat']; omega
 ·intro e; rw [e, UInt8.toNat_ofNat']; omega
def isB' (c : UInt8) : Bool := c == 9 || c == 10 || c == 13 || c == 32
set_option maxHeartbeats 800000 in
theorem letter_any (c : UInt8) (w : World) : Calls Tryz.prog 66 #[.int .u8 c.toNat] w fun e w' => e = .returned (.bool (isL c)) ∧ w = w' := by
 unfold isL
 generalize c.toNat = n
 go_enter Tryz.func66, Tryz.ntmps66
 go_wp2
 all_goals
  go_ret
  exact ⟨ret_bool (by rw [Bool.eq_iff_iff]; first | (simp only [Bool.or_eq_true, Bool.and_eq_true, decide_eq_true_eq, true_iff, Bool.false_eq_true, false_iff, not_or, not_and]; omega) | (simp; omega)), rfl⟩
set_option maxHeartbeats 800000 in
theorem digit_any (c : UInt8) (w : World) : Calls Tryz.prog 68 #[.int .u8 c.toNat] w fun e w' => e = .returned (.bool (isD c)) ∧ w = w' := by
 unfold isD
 generalize c.toNat = n
 go_enter Tryz.func68, Tryz.ntmps68
 go_wp2
 all_goals
  go_ret
  exact ⟨ret_bool (by rw [Bool.eq_iff_iff]; first | (simp only [Bool.or_eq_true, Bool.and_eq_true, decide_eq_true_eq, true_iff, Bool.false_eq_true, false_iff, not_or, not_and]; omega) | (simp; omega)), rfl⟩
set_option maxHeartbeats 1600000 in
theorem hex_any (c : UInt8) (w : World) : Calls Tryz.prog 91 #[.int .u8 c.toNat] w fun e w' => e = .returned (.bool (isX c)) ∧ w = w' := by
 have HD := qh (digit_any c w)
 have HX := qh (show isX c = (isD c || decide (65 ≤ c.toNat) && decide (c.toNat ≤ 70)) from rfl)
 go_enter Tryz.func91, Tryz.ntmps91
 go_wp2_with fail
 ((with_reducible refine HD.out.mono ?_); rintro e w1 ⟨rfl, rfl⟩)
 cases hd : isD c
 ·by_cases q1 : 65 ≤ c.toNat
  ·by_cases q2 : c.toNat ≤ 70
   ·have HR := qh (show isX c = true by rw [HX.out, hd]; simp [q1, q2])
    go_wp2
    all_goals
     go_ret
     exact ⟨by rw [HR.out]; simp; try omega, rfl⟩
   ·have HR := qh (show isX c = false by rw [HX.out, hd]; simp; omega)
    go_wp2
    all_goals
     go_ret
     exact ⟨by rw [HR.out]; simp; try omega, rfl⟩
  ·have HR := qh (show isX c = false by rw [HX.out, hd]; simp; omega)
   go_wp2
   all_goals
    go_ret
    exact ⟨by rw [HR.out]; rfl, rfl⟩
 ·have HR := qh (show isX c = true by rw [HX.out, hd]; rfl)
  go_wp2
  go_ret
  exact ⟨by rw [HR.out]; rfl, rfl⟩
set_option maxHeartbeats 1600000 in
theorem part_any (c : UInt8) (w : World) : Calls Tryz.prog 89 #[.int .u8 c.toNat] w fun e w' => e = .returned (.bool (isP c)) ∧ w = w' := by
 have HL := qh (letter_any c w)
 have HD := qh (digit_any c w)
 have HP := qh (show isP c = (isL c || isD c) from rfl)
 go_enter Tryz.func89, Tryz.ntmps89
 go_wp2_with fail
 ((with_reducible refine HL.out.mono ?_); rintro e w1 ⟨rfl, rfl⟩)
 cases hl : isL c
 ·go_wp2_with fail
  ((with_reducible refine HD.out.mono ?_); rintro e w1 ⟨rfl, rfl⟩)
  cases hd : isD c
  all_goals
   have HR := qh (show isP c = _ by rw [HP.out, hl, hd])
   go_wp2
   go_ret
   exact ⟨by rw [HR.out]; rfl, rfl⟩
 ·have HR := qh (show isP c = true by rw [HP.out, hl]; rfl)
  go_wp2
  go_ret
  exact ⟨by rw [HR.out]; rfl, rfl⟩
def isBl (c : UInt8) : Bool := c == 32 || c == 9 || c == 10 || c == 13
set_option maxHeartbeats 1600000 in
theorem blankF_any (c : UInt8) (w : World) : Calls Tryz.prog 64 #[.int .u8 c.toNat] w fun e w' => e = .returned (.bool (isBl c)) ∧ w = w' := by
 have t9 : ((c.toNat : Int) == 9) = (c == 9) := u8_eqI c 9 (by omega)
 have t10 : ((c.toNat : Int) == 10) = (c == 10) := u8_eqI c 10 (by omega)
 have t13 : ((c.toNat : Int) == 13) = (c == 13) := u8_eqI c 13 (by omega)
 have t32 : ((c.toNat : Int) == 32) = (c == 32) := u8_eqI c 32 (by omega)
 have HB := qh (show isBl c = (c == 32 || c == 9 || c == 10 || c == 13) from rfl)
 generalize isBl c = r at *
 generalize (c == 9) = e9 at *
 generalize (c == 10) = e10 at *
 generalize (c == 13) = e13 at *
 generalize (c == 32) = e32 at *
 go_enter Tryz.func64, Tryz.ntmps64
 cases e32
 ·cases e9
  ·cases e10
   ·cases e13
    all_goals
     go_wp2
     go_ret
     exact ⟨by rw [HB.out]; rfl, rfl⟩
   ·go_wp2
    go_ret
    exact ⟨by rw [HB.out]; rfl, rfl⟩
  ·go_wp2
   go_ret
   exact ⟨by rw [HB.out]; rfl, rfl⟩
 ·go_wp2
  go_ret
  exact ⟨by rw [HB.out]; rfl, rfl⟩
theorem isBl_eq : isBl = isB' := by
 funext c; unfold isBl isB'
 cases (c == 32) <;> cases (c == 9) <;> cases (c == 10) <;> cases (c == 13) <;> rfl
set_option maxHeartbeats 1600000 in
theorem textF_any (c : UInt8) (s : ByteArray) (h0 : 0 < s.size) (g : Nat) (w : World) (hg : w.cell? ⟨g, 0, none⟩ = some (.string s)) : Calls Tryz.prog 93 #[.int .u8 c.toNat, .pointer (some ⟨g, 0, none⟩)] w fun e w' => e = .returned (.bool (isQ s[0] c)) ∧ w = w' := by
 have i0 : (0 : Int) < (s.size : Int) := by omega
 have t10 : ((c.toNat : Int) != 10) = (c != 10) := by rw [bne, bne, show ((c.toNat : Int) == 10) = (c == 10) from u8_eqI c 10 (by omega)]
 have tq : ((c.toNat : Int) != (s[0].toNat : Int)) = (c != s[0]) := by
  rw [bne, bne]
  congr 1
  rw [Bool.eq_iff_iff, beq_iff_eq, beq_iff_eq]
  exact ⟨fun e => UInt8.toNat_inj.1 (by omega), fun e => by rw [e]⟩
 have HQ := qh (show isQ s[0] c = (c != s[0] && c != 10) from rfl)
 generalize isQ s[0] c = q at *
 go_enter Tryz.func93, Tryz.ntmps93
 generalize (c != s[0]) = b1 at *
 generalize (c != 10) = b2 at *
 cases b1
 ·go_wp2
  go_ret
  exact ⟨by rw [HQ.out]; rfl, rfl⟩
 ·cases b2
  all_goals
   go_wp2
   go_ret
   exact ⟨by rw [HQ.out]; rfl, rfl⟩
set_option maxHeartbeats 3200000 in
theorem run_part (s : ByteArray) (hs : s.size ≤ 9223372036854775800) (w : World) : Calls Tryz.prog 63 #[.string s, .func (.func 89) #[] #[]] w fun e w' => e = .returned (.int .i64 (runN isP s.data.toList : Nat)) ∧ w = w' := by
 have HF := qh (fun (c : UInt8) => part_any c w)
 go_enter Tryz.func63, Tryz.ntmps63
 go_wp2
 go_loop [5] (fun i => ∃ k : Nat, k ≤ s.size ∧ i = .int .i64 k ∧ Hid (runN isP s.data.toList = k + runN isP (s.data.toList.drop k))) (fun i => s.size - (intOf i).toNat)
 case atStart => exact ⟨0, Nat.zero_le _, rfl, qh (by simp)⟩
 case round =>
  obtain ⟨k, hk, rfl, HB⟩ := hrel
  have x0 : (0 : Int) ≤ (k : Int) := by omega
  by_cases hlt : k < s.size
  ·have HD := qh (drop_cons s k hlt)
   have x1 : (k : Int) < (s.size : Int) := by omega
   go_wp2_with fail
   ((with_reducible refine (HF.out _).mono ?_); rintro e w1 ⟨rfl, rfl⟩)
   cases hp : isP s[k]
   ·have HK := qh (show runN isP s.data.toList = k by rw [HB.out, HD.out, runN_no hp]; rfl)
    clear HB HD hp
    go_wp2
    go_ret
    exact ⟨ret_int (by rw [HK.out]), rfl⟩
   ·have HN := qh (show runN isP s.data.toList = (k + 1) + runN isP (s.data.toList.drop (k + 1)) by rw [HB.out, HD.out, runN_yes hp]; omega)
    clear HB HD hp
    go_wp2
    go_round
    case rel => exact ⟨k + 1, by omega, by go_num, HN⟩
    case measure => simp [intOf]; omega
  ·have hks : k = s.size := by omega
   have HK := qh (show runN isP s.data.toList = s.size by rw [HB.out, List.drop_of_length_le (by simp; omega), runN_nil]; omega)
   clear HB
   go_wp2
   go_ret
   exact ⟨ret_int (by rw [HK.out]), rfl⟩
set_option maxHeartbeats 3200000 in
theorem run_hex (s : ByteArray) (hs : s.size ≤ 9223372036854775800) (w : World) : Calls Tryz.prog 63 #[.string s, .func (.func 91) #[] #[]] w fun e w' => e = .returned (.int .i64 (runN isX s.data.toList : Nat)) ∧ w = w' := by
 have HF := qh (fun (c : UInt8) => hex_any c w)
 go_enter Tryz.func63, Tryz.ntmps63
 go_wp2
 go_loop [5] (fun i => ∃ k : Nat, k ≤ s.size ∧ i = .int .i64 k ∧ Hid (runN isX s.data.toList = k + runN isX (s.data.toList.drop k))) (fun i => s.size - (intOf i).toNat)
 case atStart => exact ⟨0, Nat.zero_le _, rfl, qh (by simp)⟩
 case round =>
  obtain ⟨k, hk, rfl, HB⟩ := hrel
  have x0 : (0 : Int) ≤ (k : Int) := by omega
  by_cases hlt : k < s.size
  ·have HD := qh (drop_cons s k hlt)
   have x1 : (k : Int) < (s.size : Int) := by omega
   go_wp2_with fail
   ((with_reducible refine (HF.out _).mono ?_); rintro e w1 ⟨rfl, rfl⟩)
   cases hp : isX s[k]
   ·have HK := qh (show runN isX s.data.toList = k by rw [HB.out, HD.out, runN_no hp]; rfl)
    clear HB HD hp
    go_wp2
    go_ret
    exact ⟨ret_int (by rw [HK.out]), rfl⟩
   ·have HN := qh (show runN isX s.data.toList = (k + 1) + runN isX (s.data.toList.drop (k + 1)) by rw [HB.out, HD.out, runN_yes hp]; omega)
    clear HB HD hp
    go_wp2
    go_round
    case rel => exact ⟨k + 1, by omega, by go_num, HN⟩
    case measure => simp [intOf]; omega
  ·have hks : k = s.size := by omega
   have HK := qh (show runN isX s.data.toList = s.size by rw [HB.out, List.drop_of_length_le (by simp; omega), runN_nil]; omega)
   clear HB
   go_wp2
   go_ret
   exact ⟨ret_int (by rw [HK.out]), rfl⟩
set_option maxHeartbeats 3200000 in
theorem run_blank (s : ByteArray) (hs : s.size ≤ 9223372036854775800) (w : World) : Calls Tryz.prog 63 #[.string s, .func (.func 64) #[] #[]] w fun e w' => e = .returned (.int .i64 (runN isBl s.data.toList : Nat)) ∧ w = w' := by
 have HF := qh (fun (c : UInt8) => blankF_any c w)
 go_enter Tryz.func63, Tryz.ntmps63
 go_wp2
 go_loop [5] (fun i => ∃ k : Nat, k ≤ s.size ∧ i = .int .i64 k ∧ Hid (runN isBl s.data.toList = k + runN isBl (s.data.toList.drop k))) (fun i => s.size - (intOf i).toNat)
 case atStart => exact ⟨0, Nat.zero_le _, rfl, qh (by simp)⟩
 case round =>
  obtain ⟨k, hk, rfl, HB⟩ := hrel
  have x0 : (0 : Int) ≤ (k : Int) := by omega
  by_cases hlt : k < s.size
  ·have HD := qh (drop_cons s k hlt)
   have x1 : (k : Int) < (s.size : Int) := by omega
   go_wp2_with fail
   ((with_reducible refine (HF.out _).mono ?_); rintro e w1 ⟨rfl, rfl⟩)
   cases hp : isBl s[k]
   ·have HK := qh (show runN isBl s.data.toList = k by rw [HB.out, HD.out, runN_no hp]; rfl)
    clear HB HD hp
    go_wp2
    go_ret
    exact ⟨ret_int (by rw [HK.out]), rfl⟩
   ·have HN := qh (show runN isBl s.data.toList = (k + 1) + runN isBl (s.data.toList.drop (k + 1)) by rw [HB.out, HD.out, runN_yes hp]; omega)
    clear HB HD hp
    go_wp2
    go_round
    case rel => exact ⟨k + 1, by omega, by go_num, HN⟩
    case measure => simp [intOf]; omega
  ·have hks : k = s.size := by omega
   have HK := qh (show runN isBl s.data.toList = s.size by rw [HB.out, List.drop_of_length_le (by simp; omega), runN_nil]; omega)
   clear HB
   go_wp2
   go_ret
   exact ⟨ret_int (by rw [HK.out]), rfl⟩
set_option maxHeartbeats 3200000 in
theorem run_text {t : ByteArray} (h0 : 0 < t.size) (g : Nat) (s : ByteArray) (hs : s.size ≤ 9223372036854775800) (w : World) (hg : w.cell? ⟨g, 0, none⟩ = some (.string t)) : Calls Tryz.prog 63 #[.string s, .func (.func 93) #[] #[.pointer (some ⟨g, 0, none⟩)]] w fun e w' => e = .returned (.int .i64 (runN (isQ t[0]) s.data.toList : Nat)) ∧ w = w' := by
 have HF := qh (fun (c : UInt8) => textF_any c t h0 g w hg)
 go_enter Tryz.func63, Tryz.ntmps63
 go_wp2
 go_loop [5] (fun i => ∃ k : Nat, k ≤ s.size ∧ i = .int .i64 k ∧ Hid (runN (isQ t[0]) s.data.toList = k + runN (isQ t[0]) (s.data.toList.drop k))) (fun i => s.size - (intOf i).toNat)
 case atStart => exact ⟨0, Nat.zero_le _, rfl, qh (by simp)⟩
 case round =>
  obtain ⟨k, hk, rfl, HB⟩ := hrel
  have x0 : (0 : Int) ≤ (k : Int) := by omega
  by_cases hlt : k < s.size
  ·have HD := qh (drop_cons s k hlt)
   have x1 : (k : Int) < (s.size : Int) := by omega
   go_wp2_with fail
   ((with_reducible refine (HF.out _).mono ?_); rintro e w1 ⟨rfl, rfl⟩)
   cases hp : (isQ t[0]) s[k]
   ·have HK := qh (show runN (isQ t[0]) s.data.toList = k by rw [HB.out, HD.out, runN_no hp]; rfl)
    clear HB HD hp
    go_wp2
    go_ret
    exact ⟨ret_int (by rw [HK.out]), rfl⟩
   ·have HN := qh (show runN (isQ t[0]) s.data.toList = (k + 1) + runN (isQ t[0]) (s.data.toList.drop (k + 1)) by rw [HB.out, HD.out, runN_yes hp]; omega)
    clear HB HD hp
    go_wp2
    go_round
    case rel => exact ⟨k + 1, by omega, by go_num, HN⟩
    case measure => simp [intOf]; omega
  ·have hks : k = s.size := by omega
   have HK := qh (show runN (isQ t[0]) s.data.toList = s.size by rw [HB.out, List.drop_of_length_le (by simp; omega), runN_nil]; omega)
   clear HB
   go_wp2
   go_ret
   exact ⟨ret_int (by rw [HK.out]), rfl⟩
end Go.Proofs.YtkemhmfdooghkaaGreatDoor.Lx
end
