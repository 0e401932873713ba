import Derived.Test.YtkemhmfdooghkaaGreatDoorX35
import Derived.Test.YtkemhmfdooghkaaGreatDoorX31
set_option linter.unusedSimpArgs false
set_option linter.unusedVariables false
set_option maxRecDepth 100000
set_option maxHeartbeats 6400000
namespace Go.Proofs.YtkemhmfdooghkaaGreatDoor
namespace St
open Go.RowKit
open Tr (Nd Fo RepS RepN Rep cellsN)
open Lx (Tk noTk Blk run_store_complexL TokAt)
open Fl
open Ex
attribute [local go_sem] run_store_complexL run_field1 run_field3
theorem body_all {g : Nat} {w0 : World} {br c : Nat} {A : Option Addr} {L : List PT} (ht : TkS w0 br A L) (hg : L.length < g) : ∀ (f lo : Nat), L.length < lo + f → TyS 97 (bodyF g (f + 1)) lo w0 br A c L := by
 intro f
 induction f with
 | zero =>
   intro lo hlo i hi hi2 w hw
   exact body_y ht hg (g2_bodyF g 0) (lo := lo + 1) (qh fun j hj hl => by omega) i (by omega) hi2 w hw
 | succ f ih =>
   intro lo hlo i hi hi2 w hw
   exact body_y ht hg (g2_bodyF g (f + 1)) (lo := lo + 1) (qh (ih (lo + 1) (by omega))) i (by omega) hi2 w hw
theorem catch_idle (p q r : Addr) (w : World) :
 CallsD Tryz.prog 96 #[.pointer (some p), .pointer (some q), .pointer (some r)] .returning w fun e u' w' => e = .returned (.tuple #[]) ∧ u' = .returning ∧ w' = w := by
 refine callsD_of_wpS Tryz.func96 rfl fun c₀ cs hu => ?_
 apply wpS_seq
 apply wpS_region
 simp [wpOpsS, go_sem, recoverD, hu, Tryz.ntmps96, Exit.thenS]
 apply wpS_seq
 apply wpS_region
 simp [wpOpsS, go_sem, Exit.thenS, Array.replicate]
 refine wpS_cond (t := false) (by simp [Act.eval, Array.replicate]) ?_
 simp only [Bool.false_eq_true, if_false]
 refine wpS_of_wp (wp_skip ?_)
 cases c₀
 simp_all [bodyPostS, results, Tryz.results96]
theorem run_bad (k : Int) (w : World) : (Instr.typeAssert (.iface 132 (.int .i64 k)) 20 132 false).run Tryz.prog w = .ok (.int .i64 k) w := by
 kernel_rfl
theorem catch_bad (b1 b2 b3 : Nat) (k : Nat) (w : World)
 (h1 : w.cell? ⟨b1, 0, none⟩ = some (.pointer none)) (h2 : w.cell? ⟨b2, 0, none⟩ = some (.int .i64 0)) (h3 : w.cell? ⟨b3, 0, none⟩ = some (.int .i64 0)) (f1 : w.frozen? ⟨b1, 0, none⟩ = false) (f2 : w.frozen? ⟨b2, 0, none⟩ = false) (f3 : w.frozen? ⟨b3, 0, none⟩ = false)
 (n12 : b1 < b2) (n23 : b2 < b3) :
 CallsD Tryz.prog 96 #[.pointer (some ⟨b1, 0, none⟩), .pointer (some ⟨b2, 0, none⟩), .pointer (some ⟨b3, 0, none⟩)] (.panicking [{ v := .iface 132 (.int .i64 k), recovered := false }]) w fun e u' w' =>
  e = .returned (.tuple #[]) ∧ u' = .panicking [{ v := .iface 132 (.int .i64 k), recovered := true }] ∧ w' = (((w.setCell ⟨b1, 0, none⟩ (.pointer none)).setCell ⟨b2, 0, none⟩ (.int .i64 k)).setCell ⟨b3, 0, none⟩ (.int .i64 60)).drew := by
 refine callsD_of_wpS Tryz.func96 rfl fun c₀ cs hu => ?_
 apply wpS_seq
 apply wpS_region
 simp [wpOpsS, go_sem, recoverD, hu, Tryz.ntmps96, Exit.thenS]
 apply wpS_seq
 apply wpS_region
 simp [wpOpsS, go_sem, Exit.thenS, Array.replicate]
 refine wpS_cond (t := true) (by simp [Act.eval, Array.replicate]) ?_
 simp only [if_true]
 refine wpS_of_wp ?_
 have hne12 : ¬ b1 = b2 := by omega
 have hne13 : ¬ b1 = b3 := by omega
 have hne23 : ¬ b2 = b3 := by omega
 have hne21 : ¬ b2 = b1 := by omega
 have hne31 : ¬ b3 = b1 := by omega
 have hne32 : ¬ b3 = b2 := by omega
 have hta := run_bad k
 go_region
 all_goals
  simp [bodyPostS, results, Tryz.results96]
theorem par_world (w : World) (A : Option Addr) (c : Nat) (L : List PT) (i : Nat) : Below w.heap.size w ((((w.alloc (.cells #[.pointer none] 31)).alloc (.cells #[.int .i64 0] 3)).alloc (.cells #[.int .i64 0] 32)).alloc (.cells #[.slice A L.length c, .int .i64 i] 135)) ∧ ((((w.alloc (.cells #[.pointer none] 31)).alloc (.cells #[.int .i64 0] 3)).alloc (.cells #[.int .i64 0] 32)).alloc (.cells #[.slice A L.length c, .int .i64 i] 135)).heap.size = w.heap.size + 4 ∧ Blk ((((w.alloc (.cells #[.pointer none] 31)).alloc (.cells #[.int .i64 0] 3)).alloc (.cells #[.int .i64 0] 32)).alloc (.cells #[.slice A L.length c, .int .i64 i] 135)) w.heap.size 31 #[.pointer none] ∧ Blk ((((w.alloc (.cells #[.pointer none] 31)).alloc (.cells #[.int .i64 0] 3)).alloc (.cells #[.int .i64 0] 32)).alloc (.cells #[.slice A L.length c, .int .i64 i] 135)) (w.heap.size + 1) 3 #[.int .i64 0] ∧ Blk ((((w.alloc (.cells #[.pointer none] 31)).alloc (.cells #[.int .i64 0] 3)).alloc (.cells #[.int .i64 0] 32)).alloc (.cells #[.slice A L.length c, .int .i64 i] 135)) (w.heap.size + 1 + 1) 32 #[.int .i64 0] ∧ Blk ((((w.alloc (.cells #[.pointer none] 31)).alloc (.cells #[.int .i64 0] 3)).alloc (.cells #[.int .i64 0] 32)).alloc (.cells #[.slice A L.length c, .int .i64 i] 135)) (w.heap.size + 1 + 1 + 1) 135 #[.slice A L.length c, .int .i64 i] := by
 have hn : ∀ (W : World) (o : Obj) (m : Nat), W.heap.size = m → (W.alloc o).heap[m]? = some o := fun W o m h => by rw [← h]; exact heap_alloc_new W o
 have ho : ∀ (W : World) (o o' : Obj) (m : Nat), W.heap[m]? = some o' → (W.alloc o).heap[m]? = some o' := fun W o o' m h => (Below.heap_alloc W o m (obj_lt h)).trans h
 have ha : ∀ {W : World} (h : Below w.heap.size w W) (o : Obj), Below w.heap.size w (W.alloc o) := fun h o => h.alloc h.size o
 refine ⟨ha (ha (ha (ha (Below.refl _ _) _) _) _) _, by simp [World.size_alloc], ?_, ?_, ?_, ?_⟩
 ·exact ho _ _ _ _ (ho _ _ _ _ (ho _ _ _ _ (hn _ _ _ rfl)))
 ·exact ho _ _ _ _ (ho _ _ _ _ (hn _ _ _ (by simp [World.size_alloc])))
 ·exact ho _ _ _ _ (hn _ _ _ (by simp [World.size_alloc]))
 ·exact hn _ _ _ (by simp [World.size_alloc])
theorem Body_y {w : World} {A : Option Addr} {L : List PT} (h : RowAt w A L) (c : Nat) {i : Nat} (hi : i ≤ L.length) {g : Nat} (hg : L.length < g) :
 Calls Tryz.prog 78 #[.slice A L.length c, .int .i64 i] w (ParR w (bodyF g (g + 1) L i)) := by
 have HF := qh (fun (w0 : World) (br c : Nat) (A : Option Addr) (L : List PT) (ht : TkS w0 br A L) (hg : L.length < g) (i : Nat) (hi : i ≤ L.length) (w : World) (hw : PInv w0 w br A c L i) => body_all ht hg g 0 (by omega) i (Nat.zero_le _) hi w hw)
 have hL := h.len
 have hA := h.reads
 have hlow := h.low
 clear h
 have hmf : ∀ (fn : Fn) (first cap : Array Value) (w : World), (Instr.makeFunc fn first cap).run Tryz.prog w = .ok (.func fn first cap) w := fun _ _ _ _ => rfl
 have x0 : (0 : Int) ≤ (i : Int) := by omega
 have x1 : ¬ (i : Int) < 0 := by omega
 have HA := qh hA
 clear hA
 go_enter_defers Tryz.func78, Tryz.ntmps78
 go_wp2_with fail
 obtain ⟨hb0, hs0, k1, k2, k3, kr⟩ := par_world w A c L i
 generalize ((((w.alloc (.cells #[.pointer none] 31)).alloc (.cells #[.int .i64 0] 3)).alloc (.cells #[.int .i64 0] 32)).alloc (.cells #[.slice A L.length c, .int .i64 i] 135)) = w0 at *
 have HT : Hid (TkS w0 (w.heap.size + 1 + 1 + 1) A L) := qh ⟨⟨(HA.out.below hb0).more hb0.size, by omega, fun ad e => by have := hlow ad e; omega, hL⟩, fun ad e => by have := hlow ad e; have := hb0.size; omega⟩
 have H := qh (PG.start (⟨kr, ⟨rfl, rfl, rfl, Nat.le_refl _, fun _ _ _ => rfl⟩⟩ : PInv w0 w0 (w.heap.size + 1 + 1 + 1) A c L i))
 have d1 := HF.out w0 _ c A L HT.out hg i hi w0 H.out.1
 have hbz : w.heap.size + 1 + 1 + 1 < w0.heap.size := by omega
 clear kr
 cases hx : bodyF g (g + 1) L i with
 | error k =>
   rw [hx] at d1
   have D1 := qh d1
   have K := qh (And.intro k1 (And.intro k2 k3))
   have HB0 := qh hb0
   clear d1 k1 k2 k3 hb0
   ((with_reducible refine D1.out.mono ?_); rintro e wv ⟨rfl, hg⟩)
   have g1 := K.out.1.grown hg (by intro e; injection e with e; omega)
   have g2 := K.out.2.1.grown hg (by intro e; injection e with e; omega)
   have g3 := K.out.2.2.grown hg (by intro e; injection e with e; omega)
   refine leaves_cons (f := 96) (args := #[.pointer (some ⟨w.heap.size, 0, none⟩), .pointer (some ⟨w.heap.size + 1, 0, none⟩), .pointer (some ⟨w.heap.size + 1 + 1, 0, none⟩)]) (by simp) (by simp [go_sem]) ?_
   refine (catch_bad w.heap.size (w.heap.size + 1) (w.heap.size + 1 + 1) k wv (g1.cell 0) (g2.cell 0) (g3.cell 0) (g1.frozen 0) (g2.frozen 0) (g3.frozen 0) (by omega) (by omega)).mono ?_
   rintro e u' w'' ⟨rfl, rfl, rfl⟩
   have z1 := ((((g1.set_ 0 (.pointer none)).far (p := ⟨w.heap.size + 1, 0, none⟩) (show w.heap.size ≠ w.heap.size + 1 by omega) (.int .i64 k)).far (p := ⟨w.heap.size + 1 + 1, 0, none⟩) (show w.heap.size ≠ w.heap.size + 1 + 1 by omega) (.int .i64 60)).drewN 1).cell 0
   have z2 := ((((g2.far (p := ⟨w.heap.size, 0, none⟩) (show w.heap.size + 1 ≠ w.heap.size by omega) (.pointer none)).set_ 0 (.int .i64 k)).far (p := ⟨w.heap.size + 1 + 1, 0, none⟩) (show w.heap.size + 1 ≠ w.heap.size + 1 + 1 by omega) (.int .i64 60)).drewN 1).cell 0
   have z3 := ((((g3.far (p := ⟨w.heap.size, 0, none⟩) (show w.heap.size + 1 + 1 ≠ w.heap.size by omega) (.pointer none)).far (p := ⟨w.heap.size + 1, 0, none⟩) (show w.heap.size + 1 + 1 ≠ w.heap.size + 1 by omega) (.int .i64 k)).set_ 0 (.int .i64 60)).drewN 1).cell 0
   have hbv : Below w.heap.size w wv := Lx.below_grown HB0.out hg (fun k e => by injection e with e; omega) HB0.out.size
   have hbz2 : Below w.heap.size w ((((wv.setCell ⟨w.heap.size, 0, none⟩ (.pointer none)).setCell ⟨w.heap.size + 1, 0, none⟩ (.int .i64 k)).setCell ⟨w.heap.size + 1 + 1, 0, none⟩ (.int .i64 60)).drewN 1) := Lx.below_drewN (((hbv.setCell nl _).setCell (Nat.le_succ _) _).setCell (show w.heap.size ≤ w.heap.size + 1 + 1 by omega) _) 1
   have HBZ := qh hbz2
   clear g1 g2 g3 hg hbv hbz2
   change Leaves _ _ _ _ _ _ ((((wv.setCell ⟨w.heap.size, 0, none⟩ (.pointer none)).setCell ⟨w.heap.size + 1, 0, none⟩ (.int .i64 k)).setCell ⟨w.heap.size + 1 + 1, 0, none⟩ (.int .i64 60)).drewN 1)
   generalize (((wv.setCell ⟨w.heap.size, 0, none⟩ (.pointer none)).setCell ⟨w.heap.size + 1, 0, none⟩ (.int .i64 k)).setCell ⟨w.heap.size + 1 + 1, 0, none⟩ (.int .i64 60)).drewN 1 = z at *
   have z1' : z.cell? ⟨w.heap.size, 0, none⟩ = some (.pointer none) := by simpa using z1
   have z2' : z.cell? ⟨w.heap.size + 1, 0, none⟩ = some (.int .i64 k) := by simpa using z2
   have z3' : z.cell? ⟨w.heap.size + 1 + 1, 0, none⟩ = some (.int .i64 60) := by simpa using z3
   clear z1 z2 z3
   simp [Leaves, settle, results, Tryz.results78, go_sem, z1', z2', z3']
   exact ⟨rfl, HBZ.out⟩
 | ok r =>
   obtain ⟨x, j⟩ := r
   rw [hx] at d1
   have D1 := qh d1
   have K := qh (And.intro k1 (And.intro k2 k3))
   have HB0 := qh hb0
   clear d1 k1 k2 k3 hb0
   ((with_reducible refine D1.out.mono ?_); rintro e wv ⟨b, rfl, hp, hg, hr⟩)
   have g1 := K.out.1.grown hg (by intro e; injection e with e; omega)
   have g2 := K.out.2.1.grown hg (by intro e; injection e with e; omega)
   have g3 := K.out.2.2.grown hg (by intro e; injection e with e; omega)
   have m1 := g1.cell 0
   have m2 := g2.cell 0
   have m3 := g3.cell 0
   have f1 := g1.frozen 0
   have f2 := g2.frozen 0
   have f3 := g3.frozen 0
   obtain ⟨a1, a2, a3⟩ := hp.at_
   have HR := qh hr
   have HP := qh hp
   have HG := qh hg
   have G := qh (And.intro g1 (And.intro g2 g3))
   simp only [List.getElem?_toArray, List.getElem?_cons_zero] at m1 m2 m3
   clear hp hg hr g1 g2 g3
   go_wp2
   have hq1 := G.out.1.set_ 0 (.pointer (some ⟨b, 0, none⟩))
   have hq2 := G.out.2.1.far (p := ⟨w.heap.size, 0, none⟩) (show w.heap.size + 1 ≠ w.heap.size by omega) (.pointer (some ⟨b, 0, none⟩))
   have hq3 := G.out.2.2.far (p := ⟨w.heap.size, 0, none⟩) (show w.heap.size + 1 + 1 ≠ w.heap.size by omega) (.pointer (some ⟨b, 0, none⟩))
   have hqr := HP.out.row.far (p := ⟨w.heap.size, 0, none⟩) (show w.heap.size + 1 + 1 + 1 ≠ w.heap.size by omega) (.pointer (some ⟨b, 0, none⟩))
   have hbv : Below w.heap.size w (wv.setCell ⟨w.heap.size, 0, none⟩ (.pointer (some ⟨b, 0, none⟩))) := (Lx.below_grown HB0.out HG.out (fun k e => by injection e with e; omega) HB0.out.size).setCell nl _
   have hr2 : RepS (fun y => w.heap.size + 4 ≤ y) (wv.setCell ⟨w.heap.size, 0, none⟩ (.pointer (some ⟨b, 0, none⟩))) (.node x.1 x.2 .no) [.pointer (some ⟨b, 0, none⟩)] := (HR.out.more (S' := fun y => w.heap.size + 4 ≤ y) fun y hy _ => by omega).keep (by rw [World.size_setCell]; exact Nat.le_refl _) (fun y hy _ => Below.heap_setCell _ _ _ _ (show y ≠ w.heap.size by omega)) (fun y h _ => h)
   have m1 := hq1.cell 0
   have m2 := hq2.cell 0
   have m3 := hq3.cell 0
   have f1 := hq1.frozen 0
   have f2 := hq2.frozen 0
   have f3 := hq3.frozen 0
   have mr := hqr.cell 1
   have Q := qh (And.intro hq1 (And.intro hq2 (And.intro hq3 (And.intro hbv hr2))))
   clear hq1 hq2 hq3 hqr hbv hr2 a1 a2 a3 G HP HG HR
   generalize wv.setCell ⟨w.heap.size, 0, none⟩ (.pointer (some ⟨b, 0, none⟩)) = wz at *
   simp only [List.getElem?_toArray, List.getElem?_cons_zero, List.getElem?_cons_succ] at m1 m2 m3 mr
   go_region
   all_goals
    go_wp2
    obtain ⟨hq1, hq2, hq3, hbv, hr2⟩ := Q.out
    refine leaves_cons (f := 96) (args := #[.pointer (some ⟨w.heap.size, 0, none⟩), .pointer (some ⟨w.heap.size + 1, 0, none⟩), .pointer (some ⟨w.heap.size + 1 + 1, 0, none⟩)]) (by simp) (by simp [go_sem]) ?_
    refine (catch_idle ⟨w.heap.size, 0, none⟩ ⟨w.heap.size + 1, 0, none⟩ ⟨w.heap.size + 1 + 1, 0, none⟩ _).mono ?_
    rintro e u' w'' ⟨rfl, rfl, rfl⟩
    have z1 := ((((hq1.set_ 0 (.pointer (some ⟨b, 0, none⟩))).far (p := ⟨w.heap.size + 1, 0, none⟩) (show w.heap.size ≠ w.heap.size + 1 by omega) (.int .i64 j)).far (p := ⟨w.heap.size + 1 + 1, 0, none⟩) (show w.heap.size ≠ w.heap.size + 1 + 1 by omega) (.int .i64 0)).drewN 1).cell 0
    have z2 := ((((hq2.far (p := ⟨w.heap.size, 0, none⟩) (show w.heap.size + 1 ≠ w.heap.size by omega) (.pointer (some ⟨b, 0, none⟩))).set_ 0 (.int .i64 j)).far (p := ⟨w.heap.size + 1 + 1, 0, none⟩) (show w.heap.size + 1 ≠ w.heap.size + 1 + 1 by omega) (.int .i64 0)).drewN 1).cell 0
    have z3 := ((((hq3.far (p := ⟨w.heap.size, 0, none⟩) (show w.heap.size + 1 + 1 ≠ w.heap.size by omega) (.pointer (some ⟨b, 0, none⟩))).far (p := ⟨w.heap.size + 1, 0, none⟩) (show w.heap.size + 1 + 1 ≠ w.heap.size + 1 by omega) (.int .i64 j)).set_ 0 (.int .i64 0)).drewN 1).cell 0
    have HBZ := qh (Lx.below_drewN (((hbv.setCell (p := ⟨w.heap.size, 0, none⟩) nl (.pointer (some ⟨b, 0, none⟩))).setCell (p := ⟨w.heap.size + 1, 0, none⟩) (Nat.le_succ _) (.int .i64 j)).setCell (p := ⟨w.heap.size + 1 + 1, 0, none⟩) (show w.heap.size ≤ w.heap.size + 1 + 1 by omega) (.int .i64 0)) 1)
    have HRZ : Hid (RepS (fun y => w.heap.size ≤ y) ((((wz.setCell ⟨w.heap.size, 0, none⟩ (.pointer (some ⟨b, 0, none⟩))).setCell ⟨w.heap.size + 1, 0, none⟩ (.int .i64 j)).setCell ⟨w.heap.size + 1 + 1, 0, none⟩ (.int .i64 0)).drewN 1) (.node x.1 x.2 .no) [.pointer (some ⟨b, 0, none⟩)]) := qh (rep_set3 hr2 _ _ _ _ _ _ (fun y hy => by simp only; omega) (fun y hy => by simp only; omega) (fun y hy => by simp only; omega) (fun y hy => by omega))
    clear hq1 hq2 hq3 hbv hr2 Q m1 m2 m3 mr f1 f2 f3
    change Leaves _ _ _ _ _ _ ((((wz.setCell ⟨w.heap.size, 0, none⟩ (.pointer (some ⟨b, 0, none⟩))).setCell ⟨w.heap.size + 1, 0, none⟩ (.int .i64 j)).setCell ⟨w.heap.size + 1 + 1, 0, none⟩ (.int .i64 0)).drewN 1)
    generalize (((wz.setCell ⟨w.heap.size, 0, none⟩ (.pointer (some ⟨b, 0, none⟩))).setCell ⟨w.heap.size + 1, 0, none⟩ (.int .i64 j)).setCell ⟨w.heap.size + 1 + 1, 0, none⟩ (.int .i64 0)).drewN 1 = z at *
    have z1' : z.cell? ⟨w.heap.size, 0, none⟩ = some (.pointer (some ⟨b, 0, none⟩)) := by simpa using z1
    have z2' : z.cell? ⟨w.heap.size + 1, 0, none⟩ = some (.int .i64 j) := by simpa using z2
    have z3' : z.cell? ⟨w.heap.size + 1 + 1, 0, none⟩ = some (.int .i64 0) := by simpa using z3
    clear z1 z2 z3
    rw [hx]
    simp [Leaves, settle, results, Tryz.results78, go_sem, z1', z2', z3']
    exact ⟨b, rfl, HRZ.out, HBZ.out⟩
end St
namespace De
open Go.RowKit
open Tr (Nd Fo RepS RepN Rep cellsN)
open Lx (Tk noTk Blk run_store_complexL TokAt)
open Fl
open Ex
open St (TkS g2_max g2_expr g2_labels Good2 isNm KG KN new_kg kid_facts one_ptr bind_ok bind_err need_y need_n tok_y tok_n ret_ add_block sSem sCol sEnd sOf sBar sElse sCase sTo armOut isWd6)
attribute [local go_sem] run_store_complexL run_field0 run_field1 run_field3
theorem of_B {g : Nat} {w0 : World} {br c : Nat} {A : Option Addr} {L : List PT} (ht : TkS w0 br A L) (hg : L.length < g) (i : Nat) (hi : i ≤ L.length) (w : World) (h : PInv w0 w br A c L i) :
 Calls Tryz.prog 77 #[.pointer (some ⟨br, 0, none⟩), .func (.func 78) #[] #[]] w (TreeR w.heap.size w0 w br A c L (bdF g L i)) := by
 have hbr0 := h.row.lt
 have hlen := ht.toks.len
 have hw := h.below ((Below.refl _ _).drew)
 have d1 : Calls Tryz.prog 78 #[.slice A L.length c, .int .i64 i] w.drew (ParR w.drew (bdF g L i)) := St.Body_y (row_at ht hw) c hi hg
 have m0 : w.cell? ⟨br, 0, none⟩ = some (.slice A L.length c) := h.row.cell 0
 obtain ⟨m1, f1, hlt⟩ := h.at_
 have H := qh (PG.start h)
 have x0 : (0 : Int) ≤ (i : Int) := by omega
 clear hw
 cases hx : bdF g L i with
 | error k9 =>
   rw [hx] at d1
   have D1 := qh d1
   clear d1 hx h ht
   go_enter Tryz.func77, Tryz.ntmps77
   go_wp2
   go_region_law (first
    | (go_simp; go_at_call 78; (with_reducible refine D1.out.mono ?_); rintro e x ⟨rfl, hb⟩; have HX := qh (H.out.below ((Below.refl _ _).drew.trans (hb.mono nl))); clear hb))
   all_goals
    go_wp2
    exact ⟨rfl, rfl, HX.out.2⟩
 | ok r =>
   obtain ⟨y, j⟩ := r
   rw [hx] at d1
   have D1 := qh d1
   clear d1 hx h ht
   go_enter Tryz.func77, Tryz.ntmps77
   go_wp2
   go_region_law (first
    | (go_simp; go_at_call 78; (with_reducible refine D1.out.mono ?_); rintro e x ⟨b, rfl, hr, hb⟩; have HX := qh (H.out.below ((Below.refl _ _).drew.trans (hb.mono nl))); have HR := qh (show RepS (fun y => w.heap.size ≤ y) x _ _ from hr); clear hb hr; obtain ⟨z1, zf1, hzl⟩ := HX.out.1.at_))
   all_goals
    have H2 := qh (HX.out.set_ j)
    have HR2 := qh (HR.out.keep (by rw [World.size_setCell]; exact Nat.le_refl _) (fun y hy _ => Below.heap_setCell _ ⟨br, 1, none⟩ (.int .i64 j) y (show y ≠ br by omega)) (fun y h _ => h))
    go_wp2
    go_ret
    exact ⟨b, rfl, H2.out.1, H2.out.2, HR2.out⟩
end De
namespace De
open Go.RowKit
open Tr (Nd Fo RepS RepN Rep cellsN)
open Lx (Tk noTk Blk run_store_complexL TokAt)
open Fl
open Ex
open St (TkS g2_max g2_expr g2_labels Good2 isNm KG KN new_kg new_0 kid_facts one_ptr bind_ok bind_err need_y need_n tok_y tok_n ret_ add_block sSem sCol sEnd sOf sBar sElse sCase sTo armOut isWd6)
attribute [local go_sem] run_store_complexL run_field0 run_field1 run_field3
theorem block_step {g : Nat} {w0 : World} {br c : Nat} {A : Option Addr} {L : List PT} (ht : TkS w0 br A L) (hgL : L.length < g) {ty bl : Par T1} (hty : Good2 ty) (hbl : Good2 bl) (HTy : Hid (TyOK 100 ty 0 w0 br A c L)) (i : Nat) (HBl : Hid (BlOK false bl (i + 1) w0 br A c L)) (hi : i ≤ L.length) (w : World) (h : PInv w0 w br A c L i) :
 Calls Tryz.prog 59 #[.pointer (some ⟨br, 0, none⟩)] w (TreeR w.heap.size w0 w br A c L (blockG g ty bl L i)) := by
 have hbr := h.row.lt
 have H0 := qh h
 have HT := qh ht
 obtain ⟨res, hs0⟩ : ∃ r, r = blockG g ty bl L i := ⟨_, rfl⟩
 rw [← hs0]
 have S := qh (S1.start h hi hs0)
 clear h ht hs0 hi
 go_enter Tryz.func59, Tryz.ntmps59
 unfold blockG at S
 go_wp2_with fail
 (with_reducible refine S.out.now HT.out ?_)
 clear S
 intro k_p p1 p2 q3_p q4_p t_p n_p wx HPp S hg
 have HZ := qh S.out.pg.2.size
 go_wp2_with fail
 (with_reducible refine S.out.listB (decls_any false HT.out hgL hty hbl HTy HBl _ (by omega) S.out.le _ S.out.pg.1) (g2_decls hty hbl _ _) ?_ ?_)
 ·intro k w1 h hg; go_wp2; exact ⟨rfl, S1.errT h.out hg.out _⟩
 clear S
 intro l A' c' xsl j1 wx hln hj1 S hg Hl
 have Hl := qh (Hl.out.lower HZ.out)
 clear HZ
 have NW := qh (new_kgl (B := w.heap.size) (w := wx) S.out.pg.2.size 45 45 rfl p1 p2 sNil 0 Hl.out (by omega))
 go_wp2_with fail
 ((with_reducible refine NW.out.mono ?_); rintro e wy ⟨b, sv0, xs0, rfl, hb, hk⟩)
 have HK := qh (hk.lower S.out.pg.2.size)
 have S := qh (S.out.below hb)
 clear hb hk NW
 go_wp2_with fail
 (with_reducible refine S.out.eatb HT.out ?_)
 clear S
 intro bv j2 wx hbv hj2 S hg
 have HK := qh (HK.out.grown hg.out hbr nl)
 have hj2 := hj2.1
 go_upto_if 11 with fail
 go_cut [] (fun wc => Hid (∃ y sv xs J, S1 w0 w wc br c A L res (needF sEnd (retP (mk 45 (p1, p2) sNil 0 (l ++ [y])))) J ∧ KG w.heap.size w.heap.size wc b ⟨45, (p1, p2), sNil, 0⟩ sv (l ++ [y]) xs))
 case first =>
  cases bv with
  | true =>
    have hll2 := HK.out.len
    go_wp2_with fail
    have D1 := qh ((S.out.below ((Below.refl _ _).drew)).treeD (of_B HT.out hgL _ S.out.le _ (S.out.pg.1.below ((Below.refl _ _).drew))) (g2_bdF (g := g)))
    have HKD := qh (HK.out.below ((Below.refl _ _).drew))
    have HKL := qh HK.out.len
    obtain ⟨m4, m4f, hbl4⟩ := HK.out.kn.facts
    clear S HK
    go_region_law (first
     | (go_simp; go_at_call 77; (with_reducible refine D1.out.mono ?_); rintro e x (⟨k, rfl, h, hgr⟩ | ⟨y, by_, j3, rfl, hj3, S, hgr, hr⟩); (case' inl => exact ⟨rfl, S1.errT h.out hgr.out _⟩); have HK := qh (HKD.out.grown hgr.out hbr nl); have HY := qh (HKD.out.new hr.out nl); obtain ⟨t4, t4f, hbx⟩ := HK.out.kn.facts)
     | (refine step_pushK (by rfl) _ _ (by rfl) (m := x.heap.size) (bY := by_) (t := y) S.out H0.out HK.out (by omega) HY.out (by rfl) (by rfl) (by rfl) ?_; clear S HK; intro g' cap xs' w5 s4 s4f hb5 S HK))
    all_goals
     go_wp2_with fail
     go_meet
     exact qh ⟨y, _, _, j3, S.out, HK.out⟩
  | false =>
    have S := qh (show S1 w0 w wx br c A L res (posP fun u => needF sEnd (retP (mk 45 (p1, p2) sNil 0 (l ++ [mk 46 u.2.1 sNil 0 []])))) j2 from S.out)
    have hll2 := HK.out.len
    have SD := qh (S.out.below ((Below.refl _ _).drew))
    have HKD := qh (HK.out.below ((Below.refl _ _).drew))
    obtain ⟨m4, m4f, hbl4⟩ := HK.out.kn.facts
    clear S HK
    go_wp2_with fail
    go_region_law (first
     | (go_simp; go_at_call 75; (with_reducible refine SD.out.now HT.out ?_); intro k_u u1 u2 q3_u q4_u t_u n_u x HPu S hgr; have HK := qh (HKD.out.grown hgr.out hbr nl); obtain ⟨t4, t4f, hbx⟩ := HK.out.kn.facts)
     | (go_simp; go_at_call 33; (with_reducible refine (new_leaf (w := x) 46 46 rfl u1 u2 sNil 0).mono ?_); rintro e w6 ⟨b6, rfl, hb, hr⟩; have HR := qh (HK.out.new hr nl); have S := qh (S.out.below hb); have HK := qh (HK.out.below hb); clear hb hr; obtain ⟨r4, r4f, hb6⟩ := HK.out.kn.facts)
     | (refine step_pushK (by rfl) _ _ (by rfl) (m := w6.heap.size) (bY := b6) (t := mk 46 (u1, u2) sNil 0 []) S.out H0.out HK.out (by omega) HR.out (by rfl) (by rfl) (by rfl) ?_; clear S HK; intro g' cap xs' w7 u4 u4f hb7 S HK))
    all_goals
     go_wp2_with fail
     go_meet
     exact qh ⟨_, _, _, j2, S.out, HK.out⟩
 case rest =>
  obtain ⟨y, sv, xs, J, hc1, hc2⟩ := hcut.out
  clear S HK
  clear hcut
  have S := qh hc1
  have HK := qh hc2
  clear hc1 hc2
  go_wp2_with fail
  (with_reducible refine S.out.need HT.out rfl ?_ ?_)
  ·intro k w1 h hg; go_wp2; exact ⟨rfl, S1.errT h.out hg.out _⟩
  clear S
  intro wx S hg
  have HK := qh (HK.out.grown hg.out hbr nl)
  have Hb := qh (HK.out.done nl)
  go_wp2
  go_ret
  exact S.out.doneT Hb.out
theorem blocks_any {g : Nat} {w0 : World} {br c : Nat} {A : Option Addr} {L : List PT} (ht : TkS w0 br A L) (hgL : L.length < g) : ∀ (f i : Nat), L.length < i + f → i ≤ L.length → ∀ w, PInv w0 w br A c L i →
 Calls Tryz.prog 59 #[.pointer (some ⟨br, 0, none⟩)] w (TreeR w.heap.size w0 w br A c L (blockF g f L i)) := by
 intro f
 induction f with
 | zero => intro i hf hi; omega
 | succ f ih =>
   intro i hf hi w h
   exact block_step (ty := typF g g) (bl := blockF g f) ht hgL (g2_typF g) (g2_blockF f) (qh fun j _ hjl w h => typ_any ht hgL g j (by omega) hjl w h) i (qh fun _ j hj hjl w h => ih j (by omega) hjl w h) hi w h
theorem def_any {g : Nat} {w0 : World} {br c : Nat} {A : Option Addr} {L : List PT} (ht : TkS w0 br A L) (hgL : L.length < g) (i : Nat) (hi : i ≤ L.length) (w : World) (h : PInv w0 w br A c L i) :
 Calls Tryz.prog 62 #[.pointer (some ⟨br, 0, none⟩), .bool true] w (ListB w.heap.size w0 w br A c L (defF g L i)) :=
 decls_any (lo := i) true ht hgL (g2_typF g) St.g2_fail (qh fun j _ hjl w h => typ_any ht hgL g j (by omega) hjl w h) (qh fun h => by cases h) i (Nat.le_succ i) hi w h
end De
end Go.Proofs.YtkemhmfdooghkaaGreatDoor
