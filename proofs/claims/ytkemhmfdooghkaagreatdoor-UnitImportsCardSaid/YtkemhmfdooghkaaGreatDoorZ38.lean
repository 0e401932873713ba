/- A part of the proof: U9, D9, N10, N11. -/
import Derived.Test.YtkemhmfdooghkaaGreatDoorZ1
import Derived.Test.YtkemhmfdooghkaaGreatDoorZ37
import Derived.Defers
import Derived.Recover
import Derived.Laws.Pointers
import Derived.RegionTactic
import Derived.Deep.RegionLaw
import Derived.Deep.AppendLies
import Derived.Deep.LoopGhost
import Derived.Test.YtkemhmfdooghkaaGreatDoorZ22
import Derived.Test.YtkemhmfdooghkaaGreatDoorZ8
import Derived.Test.YtkemhmfdooghkaaGreatDoorZ33
import Derived.Test.YtkemhmfdooghkaaGreatDoorZ18
import Derived.Test.YtkemhmfdooghkaaGreatDoorZ27
import Derived.Lib.SlicesS
set_option linter.unusedSimpArgs false
set_option linter.unusedVariables false

section
namespace Go.Proofs.YtkemhmfdooghkaaGreatDoor.St
open Go.RowKit
open Tr (Nd Fo RepS RepN Rep cellsN)
open Lx (Tk noTk Blk run_store_complexL TokAt)
open Fl
open Ex
attribute [local go_sem] run_store_complexL run_field1 run_field3
theorem body_any {g : Nat} {w0 : World} {br c : Nat} {A : Option Addr} {L : List PT} (ht : TkS w0 br A L) (hg : L.length < g) : ∀ (f lo : Nat), L.length < lo + f → ∀ i, lo ≤ i → i ≤ 60000 → ∀ w, PInv w0 w br A c L i → Calls Tryz.prog 97 #[.pointer (some ⟨br, 0, none⟩)] w (TreeR w.heap.size w0 w br A c L (bodyF g (f + 1) L i)) := by
 intro f
 induction f with
 | zero =>
   intro lo hlo i hi hi2 w hw
   exact bodyG_any (bd := bodyF g 0) ht hg (g2_bodyF g 0) (lo := lo) (fun j hj hl => by omega) i hi hi2 w hw
 | succ f ih =>
   intro lo hlo i hi hi2 w hw
   have hlen := ht.toks.len
   exact bodyG_any (bd := bodyF g (f + 1)) ht hg (g2_bodyF g (f + 1)) (lo := lo) (fun j hj hl w hw => ih (lo + 1) (by omega) j hj (by omega) w hw) i hi hi2 w hw
theorem catch_idle (p q r : Addr) (w : World) :
 CallsD Tryz.prog 96 #[.pointer (some p), .pointer (some q), .pointer (some r)] .returning w fun e u' w' => e = .returned (.tuple #[]) ∧ u' = .returning ∧ w' = w := by
 refine callsD_of_wpS Tryz.func96 rfl fun c₀ cs hu => ?_
 apply wpS_seq
 apply wpS_region
 simp [wpOpsS, go_sem, recoverD, hu, Tryz.ntmps96, Exit.thenS]
 apply wpS_seq
 apply wpS_region
 simp [wpOpsS, go_sem, Exit.thenS, Array.replicate]
 refine wpS_cond (t := false) (by simp [Act.eval, Array.replicate]) ?_
 simp only [Bool.false_eq_true, if_false]
 refine wpS_of_wp (wp_skip ?_)
 cases c₀
 simp_all [bodyPostS, results, Tryz.results96]
theorem run_bad (k : Int) (w : World) : (Instr.typeAssert (.iface 132 (.int .i64 k)) 20 132 false).run Tryz.prog w = .ok (.int .i64 k) w := by
 kernel_rfl
theorem catch_bad (b1 b2 b3 : Nat) (k : Nat) (w : World)
 (h1 : w.cell? ⟨b1, 0, none⟩ = some (.pointer none)) (h2 : w.cell? ⟨b2, 0, none⟩ = some (.int .i64 0)) (h3 : w.cell? ⟨b3, 0, none⟩ = some (.int .i64 0)) (f1 : w.frozen? ⟨b1, 0, none⟩ = false) (f2 : w.frozen? ⟨b2, 0, none⟩ = false) (f3 : w.frozen? ⟨b3, 0, none⟩ = false)
 (n12 : b1 < b2) (n23 : b2 < b3) :
 CallsD Tryz.prog 96 #[.pointer (some ⟨b1, 0, none⟩), .pointer (some ⟨b2, 0, none⟩), .pointer (some ⟨b3, 0, none⟩)] (.panicking [{ v := .iface 132 (.int .i64 k), recovered := false }]) w fun e u' w' =>
  e = .returned (.tuple #[]) ∧ u' = .panicking [{ v := .iface 132 (.int .i64 k), recovered := true }] ∧ w' = (((w.setCell ⟨b1, 0, none⟩ (.pointer none)).setCell ⟨b2, 0, none⟩ (.int .i64 k)).setCell ⟨b3, 0, none⟩ (.int .i64 60)).drew := by
 refine callsD_of_wpS Tryz.func96 rfl fun c₀ cs hu => ?_
 apply wpS_seq
 apply wpS_region
 simp [wpOpsS, go_sem, recoverD, hu, Tryz.ntmps96, Exit.thenS]
 apply wpS_seq
 apply wpS_region
 simp [wpOpsS, go_sem, Exit.thenS, Array.replicate]
 refine wpS_cond (t := true) (by simp [Act.eval, Array.replicate]) ?_
 simp only [if_true]
 refine wpS_of_wp ?_
 have hne12 : ¬ b1 = b2 := by omega
 have hne13 : ¬ b1 = b3 := by omega
 have hne23 : ¬ b2 = b3 := by omega
 have hne21 : ¬ b2 = b1 := by omega
 have hne31 : ¬ b3 = b1 := by omega
 have hne32 : ¬ b3 = b2 := by omega
 have hta := run_bad k
 go_region
 all_goals
  simp [bodyPostS, results, Tryz.results96]
theorem par_world (w : World) (A : Option Addr) (c : Nat) (L : List PT) (i : Nat) : Below w.heap.size w ((((w.alloc (.cells #[.pointer none] 31)).alloc (.cells #[.int .i64 0] 3)).alloc (.cells #[.int .i64 0] 32)).alloc (.cells #[.slice A L.length c, .int .i64 i] 135)) ∧ ((((w.alloc (.cells #[.pointer none] 31)).alloc (.cells #[.int .i64 0] 3)).alloc (.cells #[.int .i64 0] 32)).alloc (.cells #[.slice A L.length c, .int .i64 i] 135)).heap.size = w.heap.size + 4 ∧ Blk ((((w.alloc (.cells #[.pointer none] 31)).alloc (.cells #[.int .i64 0] 3)).alloc (.cells #[.int .i64 0] 32)).alloc (.cells #[.slice A L.length c, .int .i64 i] 135)) w.heap.size 31 #[.pointer none] ∧ Blk ((((w.alloc (.cells #[.pointer none] 31)).alloc (.cells #[.int .i64 0] 3)).alloc (.cells #[.int .i64 0] 32)).alloc (.cells #[.slice A L.length c, .int .i64 i] 135)) (w.heap.size + 1) 3 #[.int .i64 0] ∧ Blk ((((w.alloc (.cells #[.pointer none] 31)).alloc (.cells #[.int .i64 0] 3)).alloc (.cells #[.int .i64 0] 32)).alloc (.cells #[.slice A L.length c, .int .i64 i] 135)) (w.heap.size + 1 + 1) 32 #[.int .i64 0] ∧ Blk ((((w.alloc (.cells #[.pointer none] 31)).alloc (.cells #[.int .i64 0] 3)).alloc (.cells #[.int .i64 0] 32)).alloc (.cells #[.slice A L.length c, .int .i64 i] 135)) (w.heap.size + 1 + 1 + 1) 135 #[.slice A L.length c, .int .i64 i] := by
 have hn : ∀ (W : World) (o : Obj) (m : Nat), W.heap.size = m → (W.alloc o).heap[m]? = some o := fun W o m h => by rw [← h]; exact heap_alloc_new W o
 have ho : ∀ (W : World) (o o' : Obj) (m : Nat), W.heap[m]? = some o' → (W.alloc o).heap[m]? = some o' := fun W o o' m h => (Below.heap_alloc W o m (obj_lt h)).trans h
 have ha : ∀ {W : World} (h : Below w.heap.size w W) (o : Obj), Below w.heap.size w (W.alloc o) := fun h o => h.alloc h.size o
 refine ⟨ha (ha (ha (ha (Below.refl _ _) _) _) _) _, by simp [World.size_alloc], ?_, ?_, ?_, ?_⟩
 ·exact ho _ _ _ _ (ho _ _ _ _ (ho _ _ _ _ (hn _ _ _ rfl)))
 ·exact ho _ _ _ _ (ho _ _ _ _ (hn _ _ _ (by simp [World.size_alloc])))
 ·exact ho _ _ _ _ (hn _ _ _ (by simp [World.size_alloc]))
 ·exact hn _ _ _ (by simp [World.size_alloc])
set_option maxRecDepth 100000 in set_option maxHeartbeats 6400000 in
theorem Body_any {w : World} {A : Option Addr} {L : List PT} (h : RowAt w A L) (c : Nat) {i : Nat} (hi : i ≤ 60000) {g : Nat} (hg : L.length < g) :
 Calls Tryz.prog 78 #[.slice A L.length c, .int .i64 i] w (ParR w (bodyF g (g + 1) L i)) := by
 have HF := qh (fun (w0 : World) (br c : Nat) (A : Option Addr) (L : List PT) (ht : TkS w0 br A L) (hg : L.length < g) (i : Nat) (hi : i ≤ 60000) (w : World) (hw : PInv w0 w br A c L i) => body_any ht hg g 0 (by omega) i (Nat.zero_le _) hi w hw)
 have hL := h.len
 have hA := h.reads
 have hlow := h.low
 clear h
 have hmf : ∀ (fn : Fn) (first cap : Array Value) (w : World), (Instr.makeFunc fn first cap).run Tryz.prog w = .ok (.func fn first cap) w := fun _ _ _ _ => rfl
 have x0 : (0 : Int) ≤ (i : Int) := by omega
 have x1 : ¬ (i : Int) < 0 := by omega
 have HA := qh hA
 clear hA
 go_enter_defers Tryz.func78, Tryz.ntmps78
 go_wp2_with fail
 obtain ⟨hb0, hs0, k1, k2, k3, kr⟩ := par_world w A c L i
 generalize ((((w.alloc (.cells #[.pointer none] 31)).alloc (.cells #[.int .i64 0] 3)).alloc (.cells #[.int .i64 0] 32)).alloc (.cells #[.slice A L.length c, .int .i64 i] 135)) = w0 at *
 have HT : Hid (TkS w0 (w.heap.size + 1 + 1 + 1) A L) := qh ⟨⟨(HA.out.below hb0).more hb0.size, by omega, fun ad e => by have := hlow ad e; omega, hL⟩, fun ad e => by have := hlow ad e; have := hb0.size; omega⟩
 have H := qh (PG.start (⟨kr, ⟨rfl, rfl, rfl, Nat.le_refl _, fun _ _ _ => rfl⟩⟩ : PInv w0 w0 (w.heap.size + 1 + 1 + 1) A c L i))
 have d1 := HF.out w0 _ c A L HT.out hg i hi w0 H.out.1
 have hbz : w.heap.size + 1 + 1 + 1 < w0.heap.size := by omega
 clear kr
 cases hx : bodyF g (g + 1) L i with
 | error k =>
   rw [hx] at d1
   have D1 := qh d1
   have K := qh (And.intro k1 (And.intro k2 k3))
   have HB0 := qh hb0
   clear d1 k1 k2 k3 hb0
   ((with_reducible refine D1.out.mono ?_); rintro e wv ⟨rfl, hg⟩)
   have g1 := K.out.1.grown hg (by intro e; injection e with e; omega)
   have g2 := K.out.2.1.grown hg (by intro e; injection e with e; omega)
   have g3 := K.out.2.2.grown hg (by intro e; injection e with e; omega)
   refine leaves_cons (f := 96) (args := #[.pointer (some ⟨w.heap.size, 0, none⟩), .pointer (some ⟨w.heap.size + 1, 0, none⟩), .pointer (some ⟨w.heap.size + 1 + 1, 0, none⟩)]) (by simp) (by simp [go_sem]) ?_
   refine (catch_bad w.heap.size (w.heap.size + 1) (w.heap.size + 1 + 1) k wv (g1.cell 0) (g2.cell 0) (g3.cell 0) (g1.frozen 0) (g2.frozen 0) (g3.frozen 0) (by omega) (by omega)).mono ?_
   rintro e u' w'' ⟨rfl, rfl, rfl⟩
   have z1 := ((((g1.set_ 0 (.pointer none)).far (p := ⟨w.heap.size + 1, 0, none⟩) (show w.heap.size ≠ w.heap.size + 1 by omega) (.int .i64 k)).far (p := ⟨w.heap.size + 1 + 1, 0, none⟩) (show w.heap.size ≠ w.heap.size + 1 + 1 by omega) (.int .i64 60)).drewN 1).cell 0
   have z2 := ((((g2.far (p := ⟨w.heap.size, 0, none⟩) (show w.heap.size + 1 ≠ w.heap.size by omega) (.pointer none)).set_ 0 (.int .i64 k)).far (p := ⟨w.heap.size + 1 + 1, 0, none⟩) (show w.heap.size + 1 ≠ w.heap.size + 1 + 1 by omega) (.int .i64 60)).drewN 1).cell 0
   have z3 := ((((g3.far (p := ⟨w.heap.size, 0, none⟩) (show w.heap.size + 1 + 1 ≠ w.heap.size by omega) (.pointer none)).far (p := ⟨w.heap.size + 1, 0, none⟩) (show w.heap.size + 1 + 1 ≠ w.heap.size + 1 by omega) (.int .i64 k)).set_ 0 (.int .i64 60)).drewN 1).cell 0
   have hbv : Below w.heap.size w wv := Lx.below_grown HB0.out hg (fun k e => by injection e with e; omega) HB0.out.size
   have hbz2 : Below w.heap.size w ((((wv.setCell ⟨w.heap.size, 0, none⟩ (.pointer none)).setCell ⟨w.heap.size + 1, 0, none⟩ (.int .i64 k)).setCell ⟨w.heap.size + 1 + 1, 0, none⟩ (.int .i64 60)).drewN 1) := Lx.below_drewN (((hbv.setCell (Nat.le_refl _) _).setCell (Nat.le_succ _) _).setCell (show w.heap.size ≤ w.heap.size + 1 + 1 by omega) _) 1
   have HBZ := qh hbz2
   clear g1 g2 g3 hg hbv hbz2
   change Leaves _ _ _ _ _ _ ((((wv.setCell ⟨w.heap.size, 0, none⟩ (.pointer none)).setCell ⟨w.heap.size + 1, 0, none⟩ (.int .i64 k)).setCell ⟨w.heap.size + 1 + 1, 0, none⟩ (.int .i64 60)).drewN 1)
   generalize (((wv.setCell ⟨w.heap.size, 0, none⟩ (.pointer none)).setCell ⟨w.heap.size + 1, 0, none⟩ (.int .i64 k)).setCell ⟨w.heap.size + 1 + 1, 0, none⟩ (.int .i64 60)).drewN 1 = z at *
   have z1' : z.cell? ⟨w.heap.size, 0, none⟩ = some (.pointer none) := by simpa using z1
   have z2' : z.cell? ⟨w.heap.size + 1, 0, none⟩ = some (.int .i64 k) := by simpa using z2
   have z3' : z.cell? ⟨w.heap.size + 1 + 1, 0, none⟩ = some (.int .i64 60) := by simpa using z3
   clear z1 z2 z3
   simp [Leaves, settle, results, Tryz.results78, go_sem, z1', z2', z3']
   exact ⟨rfl, HBZ.out⟩
 | ok r =>
   obtain ⟨x, j⟩ := r
   rw [hx] at d1
   have D1 := qh d1
   have K := qh (And.intro k1 (And.intro k2 k3))
   have HB0 := qh hb0
   clear d1 k1 k2 k3 hb0
   ((with_reducible refine D1.out.mono ?_); rintro e wv ⟨b, rfl, hp, hg, hr⟩)
   have g1 := K.out.1.grown hg (by intro e; injection e with e; omega)
   have g2 := K.out.2.1.grown hg (by intro e; injection e with e; omega)
   have g3 := K.out.2.2.grown hg (by intro e; injection e with e; omega)
   have m1 := g1.cell 0
   have m2 := g2.cell 0
   have m3 := g3.cell 0
   have f1 := g1.frozen 0
   have f2 := g2.frozen 0
   have f3 := g3.frozen 0
   obtain ⟨a1, a2, a3⟩ := hp.at_
   have HR := qh hr
   have HP := qh hp
   have HG := qh hg
   have G := qh (And.intro g1 (And.intro g2 g3))
   simp only [List.getElem?_toArray, List.getElem?_cons_zero] at m1 m2 m3
   clear hp hg hr g1 g2 g3
   go_wp2
   have hq1 := G.out.1.set_ 0 (.pointer (some ⟨b, 0, none⟩))
   have hq2 := G.out.2.1.far (p := ⟨w.heap.size, 0, none⟩) (show w.heap.size + 1 ≠ w.heap.size by omega) (.pointer (some ⟨b, 0, none⟩))
   have hq3 := G.out.2.2.far (p := ⟨w.heap.size, 0, none⟩) (show w.heap.size + 1 + 1 ≠ w.heap.size by omega) (.pointer (some ⟨b, 0, none⟩))
   have hqr := HP.out.row.far (p := ⟨w.heap.size, 0, none⟩) (show w.heap.size + 1 + 1 + 1 ≠ w.heap.size by omega) (.pointer (some ⟨b, 0, none⟩))
   have hbv : Below w.heap.size w (wv.setCell ⟨w.heap.size, 0, none⟩ (.pointer (some ⟨b, 0, none⟩))) := (Lx.below_grown HB0.out HG.out (fun k e => by injection e with e; omega) HB0.out.size).setCell (Nat.le_refl _) _
   have hr2 : RepS (fun y => w.heap.size + 4 ≤ y) (wv.setCell ⟨w.heap.size, 0, none⟩ (.pointer (some ⟨b, 0, none⟩))) (.node x.1 x.2 .no) [.pointer (some ⟨b, 0, none⟩)] := (HR.out.more (S' := fun y => w.heap.size + 4 ≤ y) fun y hy _ => by omega).keep (by rw [World.size_setCell]; exact Nat.le_refl _) (fun y hy _ => Below.heap_setCell _ _ _ _ (show y ≠ w.heap.size by omega)) (fun y h _ => h)
   have m1 := hq1.cell 0
   have m2 := hq2.cell 0
   have m3 := hq3.cell 0
   have f1 := hq1.frozen 0
   have f2 := hq2.frozen 0
   have f3 := hq3.frozen 0
   have mr := hqr.cell 1
   have Q := qh (And.intro hq1 (And.intro hq2 (And.intro hq3 (And.intro hbv hr2))))
   clear hq1 hq2 hq3 hqr hbv hr2 a1 a2 a3 G HP HG HR
   generalize wv.setCell ⟨w.heap.size, 0, none⟩ (.pointer (some ⟨b, 0, none⟩)) = wz at *
   simp only [List.getElem?_toArray, List.getElem?_cons_zero, List.getElem?_cons_succ] at m1 m2 m3 mr
   go_region
   all_goals
    go_wp2
    obtain ⟨hq1, hq2, hq3, hbv, hr2⟩ := Q.out
    refine leaves_cons (f := 96) (args := #[.pointer (some ⟨w.heap.size, 0, none⟩), .pointer (some ⟨w.heap.size + 1, 0, none⟩), .pointer (some ⟨w.heap.size + 1 + 1, 0, none⟩)]) (by simp) (by simp [go_sem]) ?_
    refine (catch_idle ⟨w.heap.size, 0, none⟩ ⟨w.heap.size + 1, 0, none⟩ ⟨w.heap.size + 1 + 1, 0, none⟩ _).mono ?_
    rintro e u' w'' ⟨rfl, rfl, rfl⟩
    have z1 := ((((hq1.set_ 0 (.pointer (some ⟨b, 0, none⟩))).far (p := ⟨w.heap.size + 1, 0, none⟩) (show w.heap.size ≠ w.heap.size + 1 by omega) (.int .i64 j)).far (p := ⟨w.heap.size + 1 + 1, 0, none⟩) (show w.heap.size ≠ w.heap.size + 1 + 1 by omega) (.int .i64 0)).drewN 1).cell 0
    have z2 := ((((hq2.far (p := ⟨w.heap.size, 0, none⟩) (show w.heap.size + 1 ≠ w.heap.size by omega) (.pointer (some ⟨b, 0, none⟩))).set_ 0 (.int .i64 j)).far (p := ⟨w.heap.size + 1 + 1, 0, none⟩) (show w.heap.size + 1 ≠ w.heap.size + 1 + 1 by omega) (.int .i64 0)).drewN 1).cell 0
    have z3 := ((((hq3.far (p := ⟨w.heap.size, 0, none⟩) (show w.heap.size + 1 + 1 ≠ w.heap.size by omega) (.pointer (some ⟨b, 0, none⟩))).far (p := ⟨w.heap.size + 1, 0, none⟩) (show w.heap.size + 1 + 1 ≠ w.heap.size + 1 by omega) (.int .i64 j)).set_ 0 (.int .i64 0)).drewN 1).cell 0
    have HBZ := qh (Lx.below_drewN (((hbv.setCell (p := ⟨w.heap.size, 0, none⟩) (Nat.le_refl _) (.pointer (some ⟨b, 0, none⟩))).setCell (p := ⟨w.heap.size + 1, 0, none⟩) (Nat.le_succ _) (.int .i64 j)).setCell (p := ⟨w.heap.size + 1 + 1, 0, none⟩) (show w.heap.size ≤ w.heap.size + 1 + 1 by omega) (.int .i64 0)) 1)
    have HRZ : Hid (RepS (fun y => w.heap.size ≤ y) ((((wz.setCell ⟨w.heap.size, 0, none⟩ (.pointer (some ⟨b, 0, none⟩))).setCell ⟨w.heap.size + 1, 0, none⟩ (.int .i64 j)).setCell ⟨w.heap.size + 1 + 1, 0, none⟩ (.int .i64 0)).drewN 1) (.node x.1 x.2 .no) [.pointer (some ⟨b, 0, none⟩)]) := qh (rep_set3 hr2 _ _ _ _ _ _ (fun y hy => by simp only; omega) (fun y hy => by simp only; omega) (fun y hy => by simp only; omega) (fun y hy => by omega))
    clear hq1 hq2 hq3 hbv hr2 Q m1 m2 m3 mr f1 f2 f3
    change Leaves _ _ _ _ _ _ ((((wz.setCell ⟨w.heap.size, 0, none⟩ (.pointer (some ⟨b, 0, none⟩))).setCell ⟨w.heap.size + 1, 0, none⟩ (.int .i64 j)).setCell ⟨w.heap.size + 1 + 1, 0, none⟩ (.int .i64 0)).drewN 1)
    generalize (((wz.setCell ⟨w.heap.size, 0, none⟩ (.pointer (some ⟨b, 0, none⟩))).setCell ⟨w.heap.size + 1, 0, none⟩ (.int .i64 j)).setCell ⟨w.heap.size + 1 + 1, 0, none⟩ (.int .i64 0)).drewN 1 = z at *
    have z1' : z.cell? ⟨w.heap.size, 0, none⟩ = some (.pointer (some ⟨b, 0, none⟩)) := by simpa using z1
    have z2' : z.cell? ⟨w.heap.size + 1, 0, none⟩ = some (.int .i64 j) := by simpa using z2
    have z3' : z.cell? ⟨w.heap.size + 1 + 1, 0, none⟩ = some (.int .i64 0) := by simpa using z3
    clear z1 z2 z3
    rw [hx]
    simp [Leaves, settle, results, Tryz.results78, go_sem, z1', z2', z3']
    exact ⟨b, rfl, HRZ.out, HBZ.out⟩
end Go.Proofs.YtkemhmfdooghkaaGreatDoor.St
end

section
namespace Go.Proofs.YtkemhmfdooghkaaGreatDoor.De
open Go.RowKit
open Tr (Nd Fo RepS RepN Rep cellsN)
open Lx (Tk noTk Blk run_store_complexL TokAt)
open Fl
open Ex
open St (TkS g2_max g2_expr g2_labels Good2 isNm KG KN new_kg kid_facts one_ptr bind_ok bind_err need_y need_n tok_y tok_n ret_ add_block sSem sCol sEnd sOf sBar sElse sCase sTo armOut isWd6)
attribute [local go_sem] run_store_complexL run_field0 run_field1 run_field3
set_option maxRecDepth 100000 in set_option maxHeartbeats 6400000 in
theorem of_B {g : Nat} {w0 : World} {br c : Nat} {A : Option Addr} {L : List PT} (ht : TkS w0 br A L) (hg : L.length < g) (i : Nat) (hi : i ≤ 60000) (w : World) (h : PInv w0 w br A c L i) :
 Calls Tryz.prog 77 #[.pointer (some ⟨br, 0, none⟩), .func (.func 78) #[] #[]] w (TreeR w.heap.size w0 w br A c L (bdF g L i)) := by
 have hbr0 := h.row.lt
 have hlen := ht.toks.len
 have hw := h.below ((Below.refl _ _).drew)
 have d1 : Calls Tryz.prog 78 #[.slice A L.length c, .int .i64 i] w.drew (ParR w.drew (bdF g L i)) := St.Body_any (row_at ht hw) c hi hg
 have m0 : w.cell? ⟨br, 0, none⟩ = some (.slice A L.length c) := h.row.cell 0
 obtain ⟨m1, f1, hlt⟩ := h.at_
 have H := qh (PG.start h)
 have x0 : (0 : Int) ≤ (i : Int) := by omega
 clear hw
 cases hx : bdF g L i with
 | error k9 =>
   rw [hx] at d1
   have D1 := qh d1
   clear d1 hx h ht
   go_enter Tryz.func77, Tryz.ntmps77
   go_wp2
   go_region_law (first
    | (go_simp; go_at_call 78; (with_reducible refine D1.out.mono ?_); rintro e x ⟨rfl, hb⟩; have HX := qh (H.out.below ((Below.refl _ _).drew.trans (hb.mono (Nat.le_refl _)))); clear hb))
   all_goals
    go_wp2
    exact ⟨rfl, rfl, HX.out.2⟩
 | ok r =>
   obtain ⟨y, j⟩ := r
   rw [hx] at d1
   have D1 := qh d1
   clear d1 hx h ht
   go_enter Tryz.func77, Tryz.ntmps77
   go_wp2
   go_region_law (first
    | (go_simp; go_at_call 78; (with_reducible refine D1.out.mono ?_); rintro e x ⟨b, rfl, hr, hb⟩; have HX := qh (H.out.below ((Below.refl _ _).drew.trans (hb.mono (Nat.le_refl _)))); have HR := qh (show RepS (fun y => w.heap.size ≤ y) x _ _ from hr); clear hb hr; obtain ⟨z1, zf1, hzl⟩ := HX.out.1.at_))
   all_goals
    have H2 := qh (HX.out.set_ j)
    have HR2 := qh (HR.out.keep (by rw [World.size_setCell]; exact Nat.le_refl _) (fun y hy _ => Below.heap_setCell _ ⟨br, 1, none⟩ (.int .i64 j) y (show y ≠ br by omega)) (fun y h _ => h))
    go_wp2
    go_ret
    exact ⟨b, rfl, H2.out.1, H2.out.2, HR2.out⟩
end Go.Proofs.YtkemhmfdooghkaaGreatDoor.De
end

section
namespace Go.Proofs.YtkemhmfdooghkaaGreatDoor.Un
open Go.RowKit
open Tr (Nd Fo RepS RepN Rep cellsN)
open Lx (Tk noTk Blk run_store_complexL TokAt scanL scanF flat scanEnd at_ lex EnvS)
open Fl
open Ex
open St (TkS Good2 isWd6 sEnd ret_)
open De (declsR blockF blockG typF defF bdF)
section
variable {g f : Nat} {L : List PT} {j : Nat}
def AtEnd (L : List PT) (j : Nat) : Prop := (tk L j).1.kind = 6 ∧ (tk L j).1.text = sEnd
theorem atEnd_of (h : (tk L j).1 = kw sEnd) : AtEnd L j := by unfold AtEnd; rw [h]; exact ⟨rfl, rfl⟩
theorem AtEnd.isT (h : AtEnd L j) (s : ByteArray) : isT L j s = decide (sEnd = s) := by
 unfold Ex.isT isSW
 rw [h.1, h.2]
 rfl
theorem AtEnd.tT (h : AtEnd L j) (s : ByteArray) : tT s (tk L j) = decide (sEnd = s) := h.isT s
theorem AtEnd.wd (h : AtEnd L j) (s : ByteArray) : isWd6 s (tk L j) = decide (sEnd = s) := by
 unfold isWd6
 rw [h.1, h.2]
 rfl
theorem AtEnd.lt (h : AtEnd L j) : j < L.length := by
 rcases Nat.lt_or_ge j L.length with h1 | h1
 ·exact h1
 ·have := h.1; rw [tk_end h1] at this; cases this
theorem decls_end {ty bl : Par T1} {df : Bool} (h : AtEnd L j) : declsR g ty bl df (f + 1) [] L j = .ok ([], j) := by
 rw [declsR, tok_n (t := isWd6 De.sConst) (by rw [h.wd]; rfl), tok_n (t := isWd6 De.sType) (by rw [h.wd]; rfl), tok_n (t := isWd6 De.sVar) (by rw [h.wd]; rfl)]
 unfold posP
 dsimp only
 rw [if_neg (by rw [h.tT]; decide), if_neg (by rw [h.tT]; cases df <;> decide)]
 rfl
theorem block_end (h : AtEnd L j) : ∃ b : T1, b.1.kind = 45 ∧ blockF (g + 1) (f + 1) L j = .ok (b, j + 1) := by
 refine ⟨mk 45 (tk L j).2.1 sNil 0 ([] ++ [mk 46 (tk L j).2.1 sNil 0 []]), rfl, ?_⟩
 rw [blockF]
 unfold blockG posP
 dsimp only
 rw [bind_ok (decls_end h), tok_n (t := Ex.tT De.sBegin) (by rw [h.tT]; rfl), need_y (by rw [h.isT]; rfl)]
 rfl
theorem fin_parse {bl : Par T1} {df : Par (List T1)} : parseG g bl df L j = finR L (unitG g bl df L j) := by
 unfold parseG bindP finR posP
 cases unitG g bl df L j with
 | error k => rfl
 | ok r =>
   obtain ⟨x, i⟩ := r
   show (if isFin (tk L i) = true then retP x else failP) L i = if isFin (tk L i) = true then .ok (x, i) else .error i
   split <;> rfl
end
theorem blockEnd {g f c : Nat} {L : List PT} (hg : L.length < g + 1) {w : World} {A : Option Addr} (h : RowAt w A L) {j : Nat} (he : AtEnd L j) :
 Calls Tryz.prog 50 #[.slice A L.length c, .int .i64 j] w (ParR w (blockF (g + 1) (f + 1) L j)) := by
 have hlt := he.lt
 have hlen := h.len
 refine De.block_par h c (by omega) fun w0 br ht wx hw => ?_
 have hd : ∀ wx, De.PInv w0 wx br A c L j → Calls Tryz.prog 62 #[.pointer (some ⟨br, 0, none⟩), .bool false] wx (De.ListR wx.heap.size w0 wx br A c L (declsR (g + 1) (typF (g + 1) (g + 1)) (blockF (g + 1) f) false (g + 1) [] L j)) := fun wx hw => by
  rw [decls_end he]
  refine De.decls_none ht j (by omega) wx hw (fun x hx => ?_) (by rw [he.isT]; decide) (by rw [he.isT]; decide)
  rw [he.2]
  simp only [De.wordD, List.mem_cons, List.not_mem_nil, or_false] at hx
  rcases hx with rfl | rfl | rfl
  ·exact (show De.sConst ≠ sEnd by decide)
  ·exact (show De.sType ≠ sEnd by decide)
  ·exact (show De.sVar ≠ sEnd by decide)
 refine De.block_any (De.g2_typF _) (De.g2_blockF _) ht j (by omega) wx hw hd (fun l k h => ?_) (fun k h1 h2 _ wz hz => De.of_B ht hg (k + 1) (by omega) wz hz)
 rw [decls_end he] at h
 injection h with h; injection h with h; subst h
 exact Nat.zero_le _
theorem Read_unit (s : ByteArray) {w : World} (E : EnvS w) {l : List Lx.Tok} (hl : scanL s.data.toList = .ok l) {g : Nat} (hg : l.length < g + 1) (hg2 : g + 1 ≤ 900000)
 (hd1 : isWd6 sDefn (tk (rowT s.data.toList l) 0) = false) (hd2 : isWd6 sImpl (tk (rowT s.data.toList l) 0) = false)
 (he : ∀ a j, importsR (g + 1) (g + 1) [] (rowT s.data.toList l) 3 = .ok (a, j) → AtEnd (rowT s.data.toList l) j)
 (hr : ∀ k, parseU (g + 1) (rowT s.data.toList l) 0 = .error k → k < l.length) :
 Calls Tryz.prog 13 #[.string s] w (ReadR w (rowT s.data.toList l) (parseU (g + 1) (rowT s.data.toList l) 0)) := by
 have hll := Ex.scanL_len hl
 have hrl := rowT_len s.data.toList l
 refine Read_ok s E hl hr fun w A c h => ?_
 rw [show parseU (g + 1) (rowT s.data.toList l) 0 = finR (rowT s.data.toList l) (unitG (g + 1) (blockF (g + 1) (g + 1)) (defF (g + 1)) (rowT s.data.toList l) 0) from fin_parse]
 have hg2u := g2_unit (g := g + 1) (De.g2_blockF (g := g + 1) (g + 1)) (De.g2_defF (g := g + 1))
 refine Parse_any h c (fun x j hu => ?_) fun w0 br ht hw => ?_
 ·have := St.g2_max hg2u (rowT s.data.toList l) 0
  rw [hu] at this
  simp only [posE] at this
  omega
 ·exact unit_any (De.g2_blockF _) ht (by omega) hg2 (by omega) 0 (Nat.zero_le _) w0 hw hd1 hd2 (fun a j hi wx hx => blockEnd (by omega) hx (he a j hi))
end Go.Proofs.YtkemhmfdooghkaaGreatDoor.Un
end

section
namespace Go.Proofs.YtkemhmfdooghkaaGreatDoor.Un
open Go.RowKit
open Tr (Nd Fo RepS RepN Rep cellsN)
open Lx (Tk noTk Blk)
open Ex
theorem infoT : (Tryz.prog.info? 9).map (fun i => (i.zero, i.size, i.bytes)) = some (some (.string ⟨#[]⟩), 1, 16) := by kernel_rfl
def strB (l : List ByteArray) : List Value := l.map .string
def OwnB (base : Nat) (w : World) (lv : Value) (l : List ByteArray) : Prop := w.ownsRow base 9 1 lv l.length (strB l)
section
variable {base : Nat} {w w' : World} {lv : Value} {l : List ByteArray}
theorem OwnB.nil : OwnB base w (.slice none 0 0) [] := World.ownsRow_nil w base _ _
theorem OwnB.kept {row : Option Nat} (h : OwnB base w lv l) (hg : w.grownBy w' row) (hne : lv.ownBlock = none ∨ lv.ownBlock ≠ row) : OwnB base w' lv l := World.ownsRow.kept h hg hne
theorem OwnB.below (h : OwnB base w lv l) (hb : Below w.heap.size w w') : OwnB base w' lv l := h.kept (row := none) (grown_of_below hb none) (by cases lv.ownBlock <;> simp)
theorem OwnB.form (h : OwnB base w lv l) : ∃ A c, lv = .slice A l.length c ∧ (0 < l.length → ∃ g, A = some ⟨g, 0, none⟩ ∧ base ≤ g ∧ g < w.heap.size ∧ ∀ j, j < l.length → w.cell? ⟨g, 0 + j, none⟩ = some (.string (l.getD j ByteArray.empty))) := by
 have h0 := h
 rcases h.2 with ⟨rfl, h2⟩ | ⟨g, cap, cur, rfl, hh, hcap, hnc, hms, _⟩
 ·rw [h2]; exact ⟨none, 0, rfl, fun h => absurd h (by omega)⟩
 ·refine ⟨some ⟨g, 0, none⟩, cap, rfl, fun hl => ⟨g, rfl, (World.ownsRow.lt h0 g rfl).1, (World.ownsRow.lt h0 g rfl).2, fun j hj => ?_⟩⟩
  obtain ⟨ad, e, hlt, hc⟩ := (Reads.of_own (w := w) h0).2 hl
  injection e with e
  subst e
  have := hc j (.string (l.getD j ByteArray.empty)) (by unfold strB; rw [List.getElem?_map, List.getD_eq_getElem?_getD, List.getElem?_eq_getElem hj]; rfl)
  rw [show (⟨g, 0, none⟩ : Addr).add j = ⟨g, 0 + j, none⟩ by unfold Addr.add; split <;> simp_all] at this
  exact this
def hasB (l : List ByteArray) (x : ByteArray) : Bool := l.any fun y => decide (y = x)
theorem hasB_iff {l : List ByteArray} {x : ByteArray} : hasB l x = true ↔ x ∈ l := by
 unfold hasB; rw [List.any_eq_true]
 exact ⟨fun ⟨y, h, e⟩ => by rw [decide_eq_true_iff] at e; subst e; exact h, fun h => ⟨x, h, by simp⟩⟩
theorem mem_containsS (x : ByteArray) : Go.Lib.containsS l x = hasB l x := by
 rw [Bool.eq_iff_iff, Go.Lib.containsS_iff, hasB_iff]
theorem has_any (h : OwnB base w lv l) (hl : l.length ≤ 1000000) (x : ByteArray) :
 Calls Tryz.prog 29 #[lv, .string x] w fun e w' => e = .returned (.bool (hasB l x)) ∧ w' = w := by
 obtain ⟨A, c, rfl, hf⟩ := h.form
 rcases Nat.eq_zero_or_pos l.length with h0 | h0
 ·have : l = [] := List.eq_nil_of_length_eq_zero h0
  subst this
  exact (Tryz.slices_Contains_string_empty A c x w).mono fun e w' ⟨h1, h2⟩ => ⟨h1.trans (by simp [hasB]), h2⟩
 ·obtain ⟨g, rfl, _, _, hc⟩ := hf h0
  refine (Tryz.slices_Contains_string g 0 l.length c l x w (Nat.le_refl _) (by omega) hc).mono fun e w' ⟨h1, h2⟩ => ⟨?_, h2⟩
  rw [h1, List.take_length, mem_containsS]
end
def addU (l : List ByteArray) (x : ByteArray) : List ByteArray := if hasB l x = true then l else l ++ [x]
theorem addU_len (l : List ByteArray) (x : ByteArray) : (addU l x).length ≤ l.length + 1 := by
 unfold addU; split
 ·omega
 ·simp
section
variable {ops : Array Oper} {rest : List Oper} {o : Oper} {a : Act} {Q : Exit → Act → World → Prop}
theorem wpList_push (wq : World) (hgd : o.guard = none) (s x : Operand) (ho : o.op = .call { callee := .builtin .append, args := #[s, x], argTypes := #[44, 44] })
 (base : Nat) (lv : Value) (l : List ByteArray) (hs : a.eval s = lv) (h : OwnB base wq lv l) (hl : l.length ≤ 1000000) (hb : base ≤ wq.heap.size) (n : ByteArray) (m : Nat) (hx : a.eval x = .slice (some ⟨m, 0, none⟩) 1 1) (hm : wq.heap.size = m)
 (hK : ∀ lv' w', (∃ g cap, lv' = .slice (some ⟨g, 0, none⟩) (l.length + 1) cap) → OwnB base w' lv' (l ++ [n]) → wq.grownBy w' lv.ownBlock → (∀ k, lv'.ownBlock = some k → lv.ownBlock = some k ∨ wq.heap.size ≤ k) → wpList Tryz.prog ops Q rest (a.put o.dst lv') w') :
 wpList Tryz.prog ops Q (o :: rest) a (wq.alloc (.cells #[.string n] 9)) := by
 subst hm
 obtain ⟨i0, hi0, hz0, hz1, hz2⟩ := info_parts infoT
 refine wpList_append_lies _ hgd s x _ ho base 9 i0 _ 1 16 Tryz.underlying44 hi0 hz0 hz1 hz2 rfl (by omega) lv l.length (strB l) hs (World.ownsRow.alloc h _) ⟨wq.heap.size, 0, none⟩ 1 1 [.string n] hx rfl
  (World.news_of_block (cs := #[.string n]) (heap_alloc_new wq _)) (fun v hv => by simp only [List.mem_singleton] at hv; subst hv; rfl) (by omega) (by unfold maxLen; omega) (by omega) (by rw [World.size_alloc]; omega) (wq.heap.size + 1) (by rw [World.size_alloc]) ?_
 intro g cap w' hown hgrow hor hlt
 refine hK _ w' ⟨g, cap, rfl⟩ ?_ ((World.grownBy_alloc wq _ _).trans hgrow) (fun k hk => ?_)
 ·show w'.ownsRow base _ 1 _ (l ++ [n]).length (strB (l ++ [n]))
  have e : strB (l ++ [n]) = strB l ++ [.string n] := by simp [strB]
  rw [e, List.length_append]
  exact hown
 ·have hk' : g = k := by simpa [Value.ownBlock] using hk
  subst hk'
  rcases hor with e | e
  ·exact .inl e
  ·exact .inr (by omega)
end
structure NI (mb : Nat) (w : World) (l : List ByteArray) : Prop where
 at_ : ∃ lv, Blk w mb 44 #[lv] ∧ OwnB (mb + 1) w lv l
theorem NI.below {mb : Nat} {w w' : World} {l : List ByteArray} (h : NI mb w l) (hb : Below w.heap.size w w') : NI mb w' l := by
 obtain ⟨lv, h1, h2⟩ := h.at_
 exact ⟨lv, h1.below hb h1.lt, h2.below hb⟩
set_option maxRecDepth 100000 in set_option maxHeartbeats 6400000 in
theorem add_any {mb : Nat} {w : World} {l : List ByteArray} (h : NI mb w l) (hl : l.length ≤ 900000) (x : ByteArray) :
 Calls Tryz.prog 28 #[.string x, .pointer (some ⟨mb, 0, none⟩)] w fun e w' => e = .returned (.tuple #[]) ∧ NI mb w' (addU l x) ∧ Below mb w w' := by
 obtain ⟨lv, h1, h2⟩ := h.at_
 have d1 := has_any h2 (by omega) x
 have hlt := h1.lt
 have m0 : w.cell? ⟨mb, 0, none⟩ = some lv := h1.cell 0
 have f0 := h1.frozen 0
 have HB := qh h1
 have HO := qh h2
 clear h h1 h2
 by_cases hx : hasB l x = true
 ·rw [hx] at d1
  have D1 := qh d1
  have HA := qh (show addU l x = l from if_pos hx)
  clear d1
  go_enter Tryz.func28, Tryz.ntmps28
  go_wp2_with fail
  ((with_reducible refine D1.out.mono ?_); rintro e wx ⟨rfl, rfl⟩)
  go_wp2
  go_end0
  rw [HA.out]
  exact ⟨rfl, ⟨_, HB.out, HO.out⟩, Below.refl _ _⟩
 ·rw [show hasB l x = false by simpa using hx] at d1
  have D1 := qh d1
  have HA := qh (show addU l x = l ++ [x] from if_neg hx)
  clear d1
  go_enter Tryz.func28, Tryz.ntmps28
  go_wp2_with fail
  ((with_reducible refine D1.out.mono ?_); rintro e wx ⟨rfl, rfl⟩)
  go_wp2_with (at_builtin; refine wpList_push wx rfl _ _ rfl (mb + 1) lv l rfl HO.out (by omega) (by omega) x wx.heap.size rfl rfl ?_; rintro lv' w5 ⟨g, cap, rfl⟩ hown hgrow hor; have hB5 := Blk.grown HB.out hgrow (fun e => by have := (World.ownsRow.lt HO.out mb e.symm).1; omega); have z0 : w5.cell? ⟨mb, 0, none⟩ = some lv := hB5.cell 0; have z0f := hB5.frozen 0; have hlt5 := hB5.lt)
  have HZ := qh (And.intro (hB5.set_ 0 (.slice (some ⟨g, 0, none⟩) (l.length + 1) cap)) (And.intro hown (And.intro hgrow hor)))
  clear hB5 hown hgrow hor
  go_wp2
  go_end0
  obtain ⟨hb5, hown, hgrow, hor⟩ := HZ.out
  rw [HA.out]
  refine ⟨rfl, ⟨_, hb5, hown.kept (row := some mb) (Lx.grown_set w5 mb 0 _) (.inr fun e => ?_)⟩, (Below.grown (Below.refl mb wx) hgrow (by omega) (fun k e => by have := (World.ownsRow.lt HO.out k e).1; omega)).setCell (p := ⟨mb, 0, none⟩) (Nat.le_refl _) _⟩
  rcases hor mb e with h | h
  ·have := (World.ownsRow.lt HO.out mb h).1; omega
  ·omega
end Go.Proofs.YtkemhmfdooghkaaGreatDoor.Un
end
