import Derived.Test.YtkemhmfdooghkaaGreatDoorX19
import Derived.Defers
import Derived.Recover
import Derived.Laws.Pointers
set_option linter.unusedSimpArgs false
set_option linter.unusedVariables false
set_option maxRecDepth 100000
set_option maxHeartbeats 6400000
namespace Go.Proofs.YtkemhmfdooghkaaGreatDoor
namespace Ex
open Go.RowKit
open Tr (Nd Fo RepS RepN Rep)
open Lx (Tk noTk Blk run_store_complexL TokAt scanL flat scanEnd at_ flat_len)
open Fl
attribute [local go_sem] run_store_complexL run_field1 run_field3
theorem catch_idle (p q r : Addr) (w : World) :
 CallsD Tryz.prog 140 #[.pointer (some p), .pointer (some q), .pointer (some r)] .returning w fun e u' w' => e = .returned (.tuple #[]) ∧ u' = .returning ∧ w' = w := by
 refine callsD_of_wpS Tryz.func140 rfl fun c₀ cs hu => ?_
 apply wpS_seq
 apply wpS_region
 simp [wpOpsS, go_sem, recoverD, hu, Tryz.ntmps140, Exit.thenS]
 apply wpS_seq
 apply wpS_region
 simp [wpOpsS, go_sem, Exit.thenS, Array.replicate]
 refine wpS_cond (t := false) (by simp [Act.eval, Array.replicate]) ?_
 simp only [Bool.false_eq_true, if_false]
 refine wpS_of_wp (wp_skip ?_)
 cases c₀
 simp_all [bodyPostS, results, Tryz.results140]
theorem run_bad (k : Int) (w : World) : (Instr.typeAssert (.iface 151 (.int .i64 k)) 20 151 false).run Tryz.prog w = .ok (.int .i64 k) w := by
 kernel_rfl
theorem catch_bad (b1 b2 b3 : Nat) (k : Nat) (w : World)
 (h1 : w.cell? ⟨b1, 0, none⟩ = some (.pointer none)) (h2 : w.cell? ⟨b2, 0, none⟩ = some (.int .i64 0)) (h3 : w.cell? ⟨b3, 0, none⟩ = some (.int .i64 0)) (f1 : w.frozen? ⟨b1, 0, none⟩ = false) (f2 : w.frozen? ⟨b2, 0, none⟩ = false) (f3 : w.frozen? ⟨b3, 0, none⟩ = false)
 (n12 : b1 < b2) (n23 : b2 < b3) :
 CallsD Tryz.prog 140 #[.pointer (some ⟨b1, 0, none⟩), .pointer (some ⟨b2, 0, none⟩), .pointer (some ⟨b3, 0, none⟩)] (.panicking [{ v := .iface 151 (.int .i64 k), recovered := false }]) w fun e u' w' =>
  e = .returned (.tuple #[]) ∧ u' = .panicking [{ v := .iface 151 (.int .i64 k), recovered := true }] ∧ w' = (((w.setCell ⟨b1, 0, none⟩ (.pointer none)).setCell ⟨b2, 0, none⟩ (.int .i64 k)).setCell ⟨b3, 0, none⟩ (.int .i64 60)).drew := by
 refine callsD_of_wpS Tryz.func140 rfl fun c₀ cs hu => ?_
 apply wpS_seq
 apply wpS_region
 simp [wpOpsS, go_sem, recoverD, hu, Tryz.ntmps140, Exit.thenS]
 apply wpS_seq
 apply wpS_region
 simp [wpOpsS, go_sem, Exit.thenS, Array.replicate]
 refine wpS_cond (t := true) (by simp [Act.eval, Array.replicate]) ?_
 simp only [if_true]
 refine wpS_of_wp ?_
 have hne12 : ¬ b1 = b2 := by omega
 have hne13 : ¬ b1 = b3 := by omega
 have hne23 : ¬ b2 = b3 := by omega
 have hne21 : ¬ b2 = b1 := by omega
 have hne31 : ¬ b3 = b1 := by omega
 have hne32 : ¬ b3 = b2 := by omega
 have hta := run_bad k
 go_region
 all_goals
  simp [bodyPostS, results, Tryz.results140]
theorem rep_set3 {S S' : Nat → Prop} {w : World} {f : Fo} {vs : List Value} (h : RepS S w f vs) (p1 p2 p3 : Addr) (u1 u2 u3 : Value) (n1 : ∀ y, S y → y ≠ p1.block) (n2 : ∀ y, S y → y ≠ p2.block) (n3 : ∀ y, S y → y ≠ p3.block) (hS : ∀ y, S y → S' y) :
 RepS S' ((((w.setCell p1 u1).setCell p2 u2).setCell p3 u3).drewN 1) f vs :=
 RepS.keep (S := S) (S' := S') (w := w) (w' := (((w.setCell p1 u1).setCell p2 u2).setCell p3 u3).drewN 1) (by show w.heap.size ≤ (((w.setCell p1 u1).setCell p2 u2).setCell p3 u3).heap.size; simp [World.size_setCell])
  (fun y hy hl => show (((w.setCell p1 u1).setCell p2 u2).setCell p3 u3).heap[y]? = w.heap[y]? from (Below.heap_setCell _ _ _ _ (n3 y hy)).trans ((Below.heap_setCell _ _ _ _ (n2 y hy)).trans (Below.heap_setCell _ _ _ _ (n1 y hy)))) (fun y hy _ => hS y hy) h
def ParR (w : World) (r : Except Nat (T1 × Nat)) (e : Ending) (w' : World) : Prop := match r with
 | .ok (x, j) => ∃ b, e = .returned (.tuple #[.pointer (some ⟨b, 0, none⟩), .int .i64 j, .int .i64 0]) ∧ RepS (fun y => w.heap.size ≤ y) w' (.node x.1 x.2 .no) [.pointer (some ⟨b, 0, none⟩)] ∧ Below w.heap.size w w'
 | .error k => e = .returned (.tuple #[.pointer none, .int .i64 k, .int .i64 60]) ∧ Below w.heap.size w w'
theorem par_world (w : World) (A : Option Addr) (c : Nat) (L : List PT) (i : Nat) : Below w.heap.size w ((((w.alloc (.cells #[.pointer none] 31)).alloc (.cells #[.int .i64 0] 3)).alloc (.cells #[.int .i64 0] 32)).alloc (.cells #[.slice A L.length c, .int .i64 i] 153)) ∧ ((((w.alloc (.cells #[.pointer none] 31)).alloc (.cells #[.int .i64 0] 3)).alloc (.cells #[.int .i64 0] 32)).alloc (.cells #[.slice A L.length c, .int .i64 i] 153)).heap.size = w.heap.size + 4 ∧ Blk ((((w.alloc (.cells #[.pointer none] 31)).alloc (.cells #[.int .i64 0] 3)).alloc (.cells #[.int .i64 0] 32)).alloc (.cells #[.slice A L.length c, .int .i64 i] 153)) w.heap.size 31 #[.pointer none] ∧ Blk ((((w.alloc (.cells #[.pointer none] 31)).alloc (.cells #[.int .i64 0] 3)).alloc (.cells #[.int .i64 0] 32)).alloc (.cells #[.slice A L.length c, .int .i64 i] 153)) (w.heap.size + 1) 3 #[.int .i64 0] ∧ Blk ((((w.alloc (.cells #[.pointer none] 31)).alloc (.cells #[.int .i64 0] 3)).alloc (.cells #[.int .i64 0] 32)).alloc (.cells #[.slice A L.length c, .int .i64 i] 153)) (w.heap.size + 1 + 1) 32 #[.int .i64 0] ∧ Blk ((((w.alloc (.cells #[.pointer none] 31)).alloc (.cells #[.int .i64 0] 3)).alloc (.cells #[.int .i64 0] 32)).alloc (.cells #[.slice A L.length c, .int .i64 i] 153)) (w.heap.size + 1 + 1 + 1) 153 #[.slice A L.length c, .int .i64 i] := by
 have hn : ∀ (W : World) (o : Obj) (m : Nat), W.heap.size = m → (W.alloc o).heap[m]? = some o := fun W o m h => by rw [← h]; exact heap_alloc_new W o
 have ho : ∀ (W : World) (o o' : Obj) (m : Nat), W.heap[m]? = some o' → (W.alloc o).heap[m]? = some o' := fun W o o' m h => (Below.heap_alloc W o m (obj_lt h)).trans h
 have ha : ∀ {W : World} (h : Below w.heap.size w W) (o : Obj), Below w.heap.size w (W.alloc o) := fun h o => h.alloc h.size o
 refine ⟨ha (ha (ha (ha (Below.refl _ _) _) _) _) _, by simp [World.size_alloc], ?_, ?_, ?_, ?_⟩
 ·exact ho _ _ _ _ (ho _ _ _ _ (ho _ _ _ _ (hn _ _ _ rfl)))
 ·exact ho _ _ _ _ (ho _ _ _ _ (hn _ _ _ (by simp [World.size_alloc])))
 ·exact ho _ _ _ _ (hn _ _ _ (by simp [World.size_alloc]))
 ·exact hn _ _ _ (by simp [World.size_alloc])
theorem parse_fn {F : Nat} (hev : ∀ args w, (callFunc F args).run Tryz.prog w = .ok (.enter F args) w) (p : Par T1) (A : Option Addr) (c : Nat) (L : List PT) (hF : ∀ (w0 : World) (br c : Nat) (A : Option Addr), Toks w0 br A L → TyE F p 0 w0 br A c L) (i : Nat) (hi : i ≤ L.length) (hL : L.length ≤ 20000) (w : World) (hA : Reads w w.heap.size 5 A L.length (flatP L)) (hlow : ∀ ad, A = some ad → ad.block < w.heap.size) :
 Calls Tryz.prog 119 #[.slice A L.length c, .int .i64 i, .func (.func F) #[] #[]] w (ParR w (p L i)) := by
 have hmf : ∀ (fn : Fn) (first cap : Array Value) (w : World), (Instr.makeFunc fn first cap).run Tryz.prog w = .ok (.func fn first cap) w := fun _ _ _ _ => rfl
 have x0 : (0 : Int) ≤ (i : Int) := by omega
 have x1 : ¬ (i : Int) < 0 := by omega
 have HF := qh hF
 have HA := qh hA
 clear hF hA
 go_enter_defers Tryz.func119, Tryz.ntmps119
 go_wp2_with fail
 obtain ⟨hb0, hs0, k1, k2, k3, kr⟩ := par_world w A c L i
 generalize ((((w.alloc (.cells #[.pointer none] 31)).alloc (.cells #[.int .i64 0] 3)).alloc (.cells #[.int .i64 0] 32)).alloc (.cells #[.slice A L.length c, .int .i64 i] 153)) = w0 at *
 have HT : Hid (Toks w0 (w.heap.size + 1 + 1 + 1) A L) := qh ⟨(HA.out.below hb0).more hb0.size, by omega, fun ad e => by have := hlow ad e; omega, hL⟩
 have H := qh (PG.start (⟨kr, ⟨rfl, rfl, rfl, Nat.le_refl _, fun _ _ _ => rfl⟩⟩ : PInv w0 w0 (w.heap.size + 1 + 1 + 1) A c L i))
 have d1 := HF.out w0 _ c A HT.out i (Nat.zero_le _) hi w0 H.out.1
 have hbz : w.heap.size + 1 + 1 + 1 < w0.heap.size := by omega
 clear kr
 cases hx : p L i with
 | error k =>
   rw [hx] at d1
   have D1 := qh d1
   have K := qh (And.intro k1 (And.intro k2 k3))
   have HB0 := qh hb0
   clear d1 k1 k2 k3 hb0
   ((with_reducible refine D1.out.mono ?_); rintro e wv ⟨rfl, hg⟩)
   have g1 := K.out.1.grown hg (by intro e; injection e with e; omega)
   have g2 := K.out.2.1.grown hg (by intro e; injection e with e; omega)
   have g3 := K.out.2.2.grown hg (by intro e; injection e with e; omega)
   refine leaves_cons (f := 140) (args := #[.pointer (some ⟨w.heap.size, 0, none⟩), .pointer (some ⟨w.heap.size + 1, 0, none⟩), .pointer (some ⟨w.heap.size + 1 + 1, 0, none⟩)]) (by simp) (by simp [go_sem]) ?_
   refine (catch_bad w.heap.size (w.heap.size + 1) (w.heap.size + 1 + 1) k wv (g1.cell 0) (g2.cell 0) (g3.cell 0) (g1.frozen 0) (g2.frozen 0) (g3.frozen 0) (by omega) (by omega)).mono ?_
   rintro e u' w'' ⟨rfl, rfl, rfl⟩
   have z1 := ((((g1.set_ 0 (.pointer none)).far (p := ⟨w.heap.size + 1, 0, none⟩) (show w.heap.size ≠ w.heap.size + 1 by omega) (.int .i64 k)).far (p := ⟨w.heap.size + 1 + 1, 0, none⟩) (show w.heap.size ≠ w.heap.size + 1 + 1 by omega) (.int .i64 60)).drewN 1).cell 0
   have z2 := ((((g2.far (p := ⟨w.heap.size, 0, none⟩) (show w.heap.size + 1 ≠ w.heap.size by omega) (.pointer none)).set_ 0 (.int .i64 k)).far (p := ⟨w.heap.size + 1 + 1, 0, none⟩) (show w.heap.size + 1 ≠ w.heap.size + 1 + 1 by omega) (.int .i64 60)).drewN 1).cell 0
   have z3 := ((((g3.far (p := ⟨w.heap.size, 0, none⟩) (show w.heap.size + 1 + 1 ≠ w.heap.size by omega) (.pointer none)).far (p := ⟨w.heap.size + 1, 0, none⟩) (show w.heap.size + 1 + 1 ≠ w.heap.size + 1 by omega) (.int .i64 k)).set_ 0 (.int .i64 60)).drewN 1).cell 0
   have hbv : Below w.heap.size w wv := Lx.below_grown HB0.out hg (fun k e => by injection e with e; omega) HB0.out.size
   have hbz2 : Below w.heap.size w ((((wv.setCell ⟨w.heap.size, 0, none⟩ (.pointer none)).setCell ⟨w.heap.size + 1, 0, none⟩ (.int .i64 k)).setCell ⟨w.heap.size + 1 + 1, 0, none⟩ (.int .i64 60)).drewN 1) := Lx.below_drewN (((hbv.setCell nl _).setCell (Nat.le_succ _) _).setCell (show w.heap.size ≤ w.heap.size + 1 + 1 by omega) _) 1
   have HBZ := qh hbz2
   clear g1 g2 g3 hg hbv hbz2
   change Leaves _ _ _ _ _ _ ((((wv.setCell ⟨w.heap.size, 0, none⟩ (.pointer none)).setCell ⟨w.heap.size + 1, 0, none⟩ (.int .i64 k)).setCell ⟨w.heap.size + 1 + 1, 0, none⟩ (.int .i64 60)).drewN 1)
   generalize (((wv.setCell ⟨w.heap.size, 0, none⟩ (.pointer none)).setCell ⟨w.heap.size + 1, 0, none⟩ (.int .i64 k)).setCell ⟨w.heap.size + 1 + 1, 0, none⟩ (.int .i64 60)).drewN 1 = z at *
   have z1' : z.cell? ⟨w.heap.size, 0, none⟩ = some (.pointer none) := by simpa using z1
   have z2' : z.cell? ⟨w.heap.size + 1, 0, none⟩ = some (.int .i64 k) := by simpa using z2
   have z3' : z.cell? ⟨w.heap.size + 1 + 1, 0, none⟩ = some (.int .i64 60) := by simpa using z3
   clear z1 z2 z3
   simp [Leaves, settle, results, Tryz.results119, go_sem, z1', z2', z3']
   exact ⟨rfl, HBZ.out⟩
 | ok r =>
   obtain ⟨x, j⟩ := r
   rw [hx] at d1
   have D1 := qh d1
   have K := qh (And.intro k1 (And.intro k2 k3))
   have HB0 := qh hb0
   clear d1 k1 k2 k3 hb0
   ((with_reducible refine D1.out.mono ?_); rintro e wv ⟨b, rfl, hp, hg, hr⟩)
   have g1 := K.out.1.grown hg (by intro e; injection e with e; omega)
   have g2 := K.out.2.1.grown hg (by intro e; injection e with e; omega)
   have g3 := K.out.2.2.grown hg (by intro e; injection e with e; omega)
   have m1 := g1.cell 0
   have m2 := g2.cell 0
   have m3 := g3.cell 0
   have f1 := g1.frozen 0
   have f2 := g2.frozen 0
   have f3 := g3.frozen 0
   obtain ⟨a1, a2, a3⟩ := hp.at_
   have HR := qh hr
   have HP := qh hp
   have HG := qh hg
   have G := qh (And.intro g1 (And.intro g2 g3))
   simp only [List.getElem?_toArray, List.getElem?_cons_zero] at m1 m2 m3
   clear hp hg hr g1 g2 g3
   go_wp2
   have hq1 := G.out.1.set_ 0 (.pointer (some ⟨b, 0, none⟩))
   have hq2 := G.out.2.1.far (p := ⟨w.heap.size, 0, none⟩) (show w.heap.size + 1 ≠ w.heap.size by omega) (.pointer (some ⟨b, 0, none⟩))
   have hq3 := G.out.2.2.far (p := ⟨w.heap.size, 0, none⟩) (show w.heap.size + 1 + 1 ≠ w.heap.size by omega) (.pointer (some ⟨b, 0, none⟩))
   have hqr := HP.out.row.far (p := ⟨w.heap.size, 0, none⟩) (show w.heap.size + 1 + 1 + 1 ≠ w.heap.size by omega) (.pointer (some ⟨b, 0, none⟩))
   have hbv : Below w.heap.size w (wv.setCell ⟨w.heap.size, 0, none⟩ (.pointer (some ⟨b, 0, none⟩))) := (Lx.below_grown HB0.out HG.out (fun k e => by injection e with e; omega) HB0.out.size).setCell nl _
   have hr2 : RepS (fun y => w.heap.size + 4 ≤ y) (wv.setCell ⟨w.heap.size, 0, none⟩ (.pointer (some ⟨b, 0, none⟩))) (.node x.1 x.2 .no) [.pointer (some ⟨b, 0, none⟩)] := (HR.out.more (S' := fun y => w.heap.size + 4 ≤ y) fun y hy _ => by omega).keep (by rw [World.size_setCell]; exact Nat.le_refl _) (fun y hy _ => Below.heap_setCell _ _ _ _ (show y ≠ w.heap.size by omega)) (fun y h _ => h)
   have m1 := hq1.cell 0
   have m2 := hq2.cell 0
   have m3 := hq3.cell 0
   have f1 := hq1.frozen 0
   have f2 := hq2.frozen 0
   have f3 := hq3.frozen 0
   have mr := hqr.cell 1
   have Q := qh (And.intro hq1 (And.intro hq2 (And.intro hq3 (And.intro hbv hr2))))
   clear hq1 hq2 hq3 hqr hbv hr2 a1 a2 a3 G HP HG HR
   generalize wv.setCell ⟨w.heap.size, 0, none⟩ (.pointer (some ⟨b, 0, none⟩)) = wz at *
   simp only [List.getElem?_toArray, List.getElem?_cons_zero, List.getElem?_cons_succ] at m1 m2 m3 mr
   go_region
   all_goals
    go_wp2
    obtain ⟨hq1, hq2, hq3, hbv, hr2⟩ := Q.out
    refine leaves_cons (f := 140) (args := #[.pointer (some ⟨w.heap.size, 0, none⟩), .pointer (some ⟨w.heap.size + 1, 0, none⟩), .pointer (some ⟨w.heap.size + 1 + 1, 0, none⟩)]) (by simp) (by simp [go_sem]) ?_
    refine (catch_idle ⟨w.heap.size, 0, none⟩ ⟨w.heap.size + 1, 0, none⟩ ⟨w.heap.size + 1 + 1, 0, none⟩ _).mono ?_
    rintro e u' w'' ⟨rfl, rfl, rfl⟩
    have z1 := ((((hq1.set_ 0 (.pointer (some ⟨b, 0, none⟩))).far (p := ⟨w.heap.size + 1, 0, none⟩) (show w.heap.size ≠ w.heap.size + 1 by omega) (.int .i64 j)).far (p := ⟨w.heap.size + 1 + 1, 0, none⟩) (show w.heap.size ≠ w.heap.size + 1 + 1 by omega) (.int .i64 0)).drewN 1).cell 0
    have z2 := ((((hq2.far (p := ⟨w.heap.size, 0, none⟩) (show w.heap.size + 1 ≠ w.heap.size by omega) (.pointer (some ⟨b, 0, none⟩))).set_ 0 (.int .i64 j)).far (p := ⟨w.heap.size + 1 + 1, 0, none⟩) (show w.heap.size + 1 ≠ w.heap.size + 1 + 1 by omega) (.int .i64 0)).drewN 1).cell 0
    have z3 := ((((hq3.far (p := ⟨w.heap.size, 0, none⟩) (show w.heap.size + 1 + 1 ≠ w.heap.size by omega) (.pointer (some ⟨b, 0, none⟩))).far (p := ⟨w.heap.size + 1, 0, none⟩) (show w.heap.size + 1 + 1 ≠ w.heap.size + 1 by omega) (.int .i64 j)).set_ 0 (.int .i64 0)).drewN 1).cell 0
    have HBZ := qh (Lx.below_drewN (((hbv.setCell (p := ⟨w.heap.size, 0, none⟩) nl (.pointer (some ⟨b, 0, none⟩))).setCell (p := ⟨w.heap.size + 1, 0, none⟩) (Nat.le_succ _) (.int .i64 j)).setCell (p := ⟨w.heap.size + 1 + 1, 0, none⟩) (show w.heap.size ≤ w.heap.size + 1 + 1 by omega) (.int .i64 0)) 1)
    have HRZ : Hid (RepS (fun y => w.heap.size ≤ y) ((((wz.setCell ⟨w.heap.size, 0, none⟩ (.pointer (some ⟨b, 0, none⟩))).setCell ⟨w.heap.size + 1, 0, none⟩ (.int .i64 j)).setCell ⟨w.heap.size + 1 + 1, 0, none⟩ (.int .i64 0)).drewN 1) (.node x.1 x.2 .no) [.pointer (some ⟨b, 0, none⟩)]) := qh (rep_set3 hr2 _ _ _ _ _ _ (fun y hy => by simp only; omega) (fun y hy => by simp only; omega) (fun y hy => by simp only; omega) (fun y hy => by omega))
    clear hq1 hq2 hq3 hbv hr2 Q m1 m2 m3 mr f1 f2 f3
    change Leaves _ _ _ _ _ _ ((((wz.setCell ⟨w.heap.size, 0, none⟩ (.pointer (some ⟨b, 0, none⟩))).setCell ⟨w.heap.size + 1, 0, none⟩ (.int .i64 j)).setCell ⟨w.heap.size + 1 + 1, 0, none⟩ (.int .i64 0)).drewN 1)
    generalize (((wz.setCell ⟨w.heap.size, 0, none⟩ (.pointer (some ⟨b, 0, none⟩))).setCell ⟨w.heap.size + 1, 0, none⟩ (.int .i64 j)).setCell ⟨w.heap.size + 1 + 1, 0, none⟩ (.int .i64 0)).drewN 1 = z at *
    have z1' : z.cell? ⟨w.heap.size, 0, none⟩ = some (.pointer (some ⟨b, 0, none⟩)) := by simpa using z1
    have z2' : z.cell? ⟨w.heap.size + 1, 0, none⟩ = some (.int .i64 j) := by simpa using z2
    have z3' : z.cell? ⟨w.heap.size + 1 + 1, 0, none⟩ = some (.int .i64 0) := by simpa using z3
    clear z1 z2 z3
    rw [hx]
    simp [Leaves, settle, results, Tryz.results119, go_sem, z1', z2', z3']
    exact ⟨b, rfl, HRZ.out, HBZ.out⟩
structure RowAt (w : World) (A : Option Addr) (L : List PT) : Prop where
 reads : Reads w w.heap.size 5 A L.length (flatP L)
 low : ∀ ad, A = some ad → ad.block < w.heap.size
 len : L.length ≤ 20000
theorem RowAt.below {w w' : World} {A : Option Addr} {L : List PT} (h : RowAt w A L) (hb : Below w.heap.size w w') : RowAt w' A L :=
 ⟨(h.reads.below hb).more hb.size, fun ad e => Nat.lt_of_lt_of_le (h.low ad e) hb.size, h.len⟩
theorem reads_front {w : World} {B m n : Nat} {A : Option Addr} {xs ys : List Value} (h : Reads w B 5 A n (xs ++ ys)) (hm : xs.length = m * 5) (hmn : m ≤ n) : Reads w B 5 A m xs :=
 ⟨hm, fun h0 => by
   obtain ⟨ad, e, hb, hc⟩ := h.2 (by omega)
   refine ⟨ad, e, hb, fun j u hu => hc j u ?_⟩
   obtain ⟨hj, _⟩ := List.getElem?_eq_some_iff.1 hu
   rw [List.getElem?_append_left hj]; exact hu⟩
theorem scanF_len : ∀ (f i : Nat) (s : List UInt8) (l : List Lx.Tok), s.length < f → Lx.scanF f i s = .ok l → 1 ≤ l.length ∧ l.length ≤ s.length + 1 := by
 intro f
 induction f with
 | zero => intro i s l h; omega
 | succ f ih =>
   intro i s l h e
   unfold Lx.scanF at e
   by_cases hs : s = []
   ·rw [if_pos hs] at e; cases e; simp
   ·rw [if_neg hs] at e
    obtain ⟨h1, h2⟩ := Lx.item_bd s hs
    cases e1 : Lx.item s with
    | bad k => rw [e1] at e; cases e
    | blank n =>
      have := h1 n e1
      rw [e1] at e
      have := ih _ _ _ (by rw [List.length_drop]; omega) e
      rw [List.length_drop] at this
      omega
    | tok t n =>
      have h3 := h2 t n e1
      rw [e1] at e
      dsimp only at e
      cases e2 : Lx.scanF f (i + n) (s.drop n) with
      | error k => rw [e2] at e; cases e
      | ok l2 =>
        rw [e2] at e
        cases e
        have := ih _ _ _ (by rw [List.length_drop]; omega) e2
        rw [List.length_drop] at this
        simp only [List.length_cons]
        omega
theorem scanL_len {s : List UInt8} {l : List Lx.Tok} (h : scanL s = .ok l) : 1 ≤ l.length ∧ l.length ≤ 16385 ∧ s.length ≤ 16384 := by
 unfold scanL at h
 split at h
 ·cases h
 ·have := scanF_len _ _ _ _ (Nat.lt_succ_self _) h
  omega
theorem flatP_row {s : List UInt8} {l : List Lx.Tok} (h : scanL s = .ok l) : rowP s = l.dropLast.map (fun x => (x.1, at_ s x.2.1, at_ s x.2.2)) := by
 unfold rowP; rw [h]
theorem flat_snoc_last {s : List UInt8} {l : List Lx.Tok} (h : scanL s = .ok l) : ∃ ys, flat s l = flatP (rowP s) ++ ys ∧ (rowP s).length + 1 = l.length := by
 have hl := scanL_len h
 rw [flatP_row h]
 obtain ⟨l1, x, rfl⟩ : ∃ l1 x, l = l1 ++ [x] := by
  rcases List.eq_nil_or_concat l with e | ⟨l1, x, e⟩
  ·subst e; simp at hl
  ·exact ⟨l1, x, by simpa using e⟩
 refine ⟨Lx.Tok.vals s x, ?_, by simp⟩
 rw [Lx.flat_snoc, List.dropLast_concat]
 congr 1
 simp only [flat, flatP, List.flatMap_map]
 rfl
theorem rowP_len (s : List UInt8) : (rowP s).length ≤ 16384 := by
 unfold rowP
 cases h : scanL s with
 | error k => simp
 | ok l =>
   have := scanL_len h
   simp
   omega
theorem item_err (s : List UInt8) (k : Nat) (h : Lx.item s = .bad k) : k ≠ 0 := by
 unfold Lx.item at h
 split at h
 ·cases h
 ·split at h
  ·split at h
   ·injection h with h; omega
   ·cases h
  ·split at h
   ·rename_i e
    injection h with h
    have := Lx.oneN_err _ _ e
    omega
   ·cases h
theorem scanF_err : ∀ (f i : Nat) (s : List UInt8) (j k : Nat), s.length < f → Lx.scanF f i s = .error (j, k) → k ≠ 0 := by
 intro f
 induction f with
 | zero => intro i s j k h; omega
 | succ f ih =>
   intro i s j k h e
   unfold Lx.scanF at e
   by_cases hs : s = []
   ·rw [if_pos hs] at e; cases e
   ·rw [if_neg hs] at e
    obtain ⟨h1, h2⟩ := Lx.item_bd s hs
    cases e1 : Lx.item s with
    | bad k' => rw [e1] at e; cases e; exact item_err s k e1
    | blank n =>
      have := h1 n e1
      rw [e1] at e
      exact ih _ _ _ _ (by rw [List.length_drop]; omega) e
    | tok t n =>
      have h3 := h2 t n e1
      rw [e1] at e
      dsimp only at e
      cases e2 : Lx.scanF f (i + n) (s.drop n) with
      | error k' =>
        rw [e2] at e
        cases e
        exact ih _ _ _ _ (by rw [List.length_drop]; omega) e2
      | ok l2 => rw [e2] at e; cases e
theorem scanL_err {s : List UInt8} {j k : Nat} (h : scanL s = .error (j, k)) : k ≠ 0 := by
 unfold scanL at h
 split at h
 ·cases h; omega
 ·exact scanF_err _ _ _ _ _ (Nat.lt_succ_self _) h
theorem RowAt.take {w : World} {A : Option Addr} {L : List PT} (h : RowAt w A L) {m : Nat} (hm : m ≤ L.length) : RowAt w A (L.take m) := by
 have hl : (L.take m).length = m := by rw [List.length_take]; omega
 refine ⟨?_, h.low, by rw [hl]; have := h.len; omega⟩
 rw [hl]
 refine reads_front (n := L.length) (ys := flatP (L.drop m)) ?_ (by rw [flatP_len, hl]) hm
 have : flatP (L.take m) ++ flatP (L.drop m) = flatP L := by
  simp only [flatP]
  rw [← List.flatMap_append, List.take_append_drop]
 rw [this]
 exact h.reads
def RowR (w : World) (L : List PT) (e : Ending) (w' : World) : Prop := ∃ A c, e = .returned (.slice A L.length c) ∧ L.length ≤ c ∧ RowAt w' A L ∧ Below w.heap.size w w'
theorem row_any (s : ByteArray) (hs : s.size ≤ 9223372036854775800) (w : World) : Calls Tryz.prog 8 #[.string s] w (RowR w (rowP s.data.toList)) := by
 have d1 := Lx.rScan_any s hs w
 cases hx : scanL s.data.toList with
 | error x =>
   obtain ⟨i, k⟩ := x
   rw [hx] at d1
   have HR := qh (show rowP s.data.toList = [] by unfold rowP; rw [hx])
   have hk0 := scanL_err hx
   have b1 : ((k : Int) == 0) = false := by simp only [beq_eq_false_iff_ne, ne_eq]; omega
   have b2 : ((k : Int) != 0) = true := by simp [bne, b1]
   have D1 := qh d1
   clear d1 hx hk0
   go_enter Tryz.func8, Tryz.ntmps8
   go_wp2_with fail
   ((with_reducible refine D1.out.mono ?_); rintro e w1 ⟨rfl, hb⟩)
   have HB := qh hb
   clear hb
   go_wp2
   go_ret
   rw [HR.out]
   exact ⟨none, 0, rfl, Nat.le_refl _, ⟨Reads.none_, (fun ad e => by cases e), by simp⟩, HB.out⟩
 | ok l =>
   rw [hx] at d1
   have hl := scanL_len hx
   obtain ⟨ys, hf, hn⟩ := flat_snoc_last hx
   have HF := qh hf
   have HN := qh hn
   have x1 : (1 : Int) ≤ (l.length : Int) := by omega
   have D1 := qh d1
   have hlr := rowP_len s.data.toList
   clear d1 hx hf hn
   go_enter Tryz.func8, Tryz.ntmps8
   go_wp2_with fail
   ((with_reducible refine D1.out.mono ?_); rintro e w1 ⟨g, cap, rfl, hown, hb⟩)
   have HB := qh hb
   have RD := qh (Reads.of_own hown)
   have hcap : l.length ≤ cap := by
    rcases hown.2 with ⟨h0, _⟩ | ⟨g', cap', cur, e1, h3, h4⟩
    ·cases h0
    ·injection e1 with e1 e2 e3
     subst e3
     first | exact h4.1 | omega
   have hlt := (hown.lt g rfl).2
   clear hb hown
   go_wp2
   go_ret
   have hz : l.length - 1 = (rowP s.data.toList).length := by have := HN.out; omega
   refine ⟨some ⟨g, 0, none⟩, cap, by rw [← hz]; rfl, by omega, ⟨reads_front (n := l.length) (ys := ys) (by rw [← HF.out]; exact RD.out) (flatP_len _) (by omega), (fun ad e => by injection e with e; subst e; exact hlt), by omega⟩, HB.out⟩
theorem par_split {w : World} {r : Except Nat (T1 × Nat)} {F : Nat} {args : Array Value} (h : Calls Tryz.prog F args w (ParR w r)) :
 Calls Tryz.prog F args w fun e w' => ∃ (v j k : Value), e = .returned (.tuple #[v, j, k]) ∧ Hid (ParR w r (.returned (.tuple #[v, j, k])) w') := by
 refine h.mono fun e w' h => ?_
 cases r with
 | error k => obtain ⟨rfl, hb⟩ := h; exact ⟨_, _, _, rfl, qh ⟨rfl, hb⟩⟩
 | ok x =>
   obtain ⟨x, j⟩ := x
   obtain ⟨b, rfl, hr, hb⟩ := h
   exact ⟨_, _, _, rfl, qh ⟨b, rfl, hr, hb⟩⟩
theorem ExprY {g : Nat} {w : World} {A : Option Addr} {L : List PT} (h : RowAt w A L) (hgL : L.length < g) (c : Nat) {i : Nat} (hi : i ≤ L.length) : Calls Tryz.prog 99 #[.slice A L.length c, .int .i64 i] w (ParR w (exprF g L i)) := by
 have D1 := qh (par_split (parse_fn (F := 120) (by intro _ _; kernel_rfl) (exprF g) A c L (fun w0 br c A ht => exprAll ht hgL) i hi h.len w h.reads h.low))
 clear h
 generalize exprF g L i = r at *
 go_enter Tryz.func99, Tryz.ntmps99
 go_wp2_with fail
 ((with_reducible refine D1.out.mono ?_); rintro e w1 ⟨v, j, k, rfl, HP⟩)
 go_wp2
 go_ret3
 exact HP.out
theorem DesignY {g : Nat} {w : World} {A : Option Addr} {L : List PT} (h : RowAt w A L) (hgL : L.length < g) (c : Nat) {i : Nat} (hi : i ≤ L.length) : Calls Tryz.prog 139 #[.slice A L.length c, .int .i64 i] w (ParR w (designF (exprF g) g L i)) := by
 have D1 := qh (par_split (parse_fn (F := 158) (by intro _ _; kernel_rfl) (designF (exprF g) g) A c L (fun w0 br c A ht => designAll ht hgL) i hi h.len w h.reads h.low))
 clear h
 generalize designF (exprF g) g L i = r at *
 go_enter Tryz.func139, Tryz.ntmps139
 go_wp2_with fail
 ((with_reducible refine D1.out.mono ?_); rintro e w1 ⟨v, j, k, rfl, HP⟩)
 go_wp2
 go_ret3
 exact HP.out
theorem QualY {g : Nat} {w : World} {A : Option Addr} {L : List PT} (h : RowAt w A L) (hgL : L.length < g) (c : Nat) {i : Nat} (hi : i ≤ L.length) : Calls Tryz.prog 163 #[.slice A L.length c, .int .i64 i] w (ParR w (qualF g L i)) := by
 have D1 := qh (par_split (parse_fn (F := 167) (by intro _ _; kernel_rfl) (qualF g) A c L (fun w0 br c A ht => fun j _ hj w h => qual_y ht hgL j hj w h) i hi h.len w h.reads h.low))
 clear h
 generalize qualF g L i = r at *
 go_enter Tryz.func163, Tryz.ntmps163
 go_wp2_with fail
 ((with_reducible refine D1.out.mono ?_); rintro e w1 ⟨v, j, k, rfl, HP⟩)
 go_wp2
 go_ret3
 exact HP.out
theorem LabelsY {g : Nat} {w : World} {A : Option Addr} {L : List PT} (h : RowAt w A L) (hgL : L.length < g) (c : Nat) {i : Nat} (hi : i ≤ L.length) : Calls Tryz.prog 137 #[.slice A L.length c, .int .i64 i] w (ParR w (labelsF g L i)) := by
 have D1 := qh (par_split (parse_fn (F := 155) (by intro _ _; kernel_rfl) (labelsF g) A c L (fun w0 br c A ht => fun j _ hj w h => labels_y ht hgL j hj w h) i hi h.len w h.reads h.low))
 clear h
 generalize labelsF g L i = r at *
 go_enter Tryz.func137, Tryz.ntmps137
 go_wp2_with fail
 ((with_reducible refine D1.out.mono ?_); rintro e w1 ⟨v, j, k, rfl, HP⟩)
 go_wp2
 go_ret3
 exact HP.out
end Ex
end Go.Proofs.YtkemhmfdooghkaaGreatDoor
