/- A part of the proof: E26. -/
import Derived.Test.YtkemhmfdooghkaaGreatDoorZ1
import Derived.Test.YtkemhmfdooghkaaGreatDoorZ15
import Derived.Deep.RegionLaw
set_option linter.unusedSimpArgs false
set_option linter.unusedVariables false

section
namespace Go.Proofs.YtkemhmfdooghkaaGreatDoor.Ex
open Go.RowKit
open Tr (Nd Fo RepS RepN Rep)
open Lx (Tk noTk Blk run_store_complexL TokAt)
open Fl
attribute [local go_sem] run_store_complexL run_field1 run_field3
theorem rep_set3 {S S' : Nat → Prop} {w : World} {f : Fo} {vs : List Value} (h : RepS S w f vs) (p1 p2 p3 : Addr) (u1 u2 u3 : Value) (n1 : ∀ y, S y → y ≠ p1.block) (n2 : ∀ y, S y → y ≠ p2.block) (n3 : ∀ y, S y → y ≠ p3.block) (hS : ∀ y, S y → S' y) :
 RepS S' ((((w.setCell p1 u1).setCell p2 u2).setCell p3 u3).drewN 1) f vs :=
 RepS.keep (S := S) (S' := S') (w := w) (w' := (((w.setCell p1 u1).setCell p2 u2).setCell p3 u3).drewN 1) (by show w.heap.size ≤ (((w.setCell p1 u1).setCell p2 u2).setCell p3 u3).heap.size; simp [World.size_setCell])
  (fun y hy hl => show (((w.setCell p1 u1).setCell p2 u2).setCell p3 u3).heap[y]? = w.heap[y]? from (Below.heap_setCell _ _ _ _ (n3 y hy)).trans ((Below.heap_setCell _ _ _ _ (n2 y hy)).trans (Below.heap_setCell _ _ _ _ (n1 y hy)))) (fun y hy _ => hS y hy) h
def ParR (w : World) (r : Except Nat (T1 × Nat)) (e : Ending) (w' : World) : Prop := match r with
 | .ok (x, j) => ∃ b, e = .returned (.tuple #[.pointer (some ⟨b, 0, none⟩), .int .i64 j, .int .i64 0]) ∧ RepS (fun y => w.heap.size ≤ y) w' (.node x.1 x.2 .no) [.pointer (some ⟨b, 0, none⟩)] ∧ Below w.heap.size w w'
 | .error k => e = .returned (.tuple #[.pointer none, .int .i64 k, .int .i64 60]) ∧ Below w.heap.size w w'
theorem par_world (w : World) (A : Option Addr) (c : Nat) (L : List PT) (i : Nat) : Below w.heap.size w ((((w.alloc (.cells #[.pointer none] 31)).alloc (.cells #[.int .i64 0] 3)).alloc (.cells #[.int .i64 0] 32)).alloc (.cells #[.slice A L.length c, .int .i64 i] 153)) ∧ ((((w.alloc (.cells #[.pointer none] 31)).alloc (.cells #[.int .i64 0] 3)).alloc (.cells #[.int .i64 0] 32)).alloc (.cells #[.slice A L.length c, .int .i64 i] 153)).heap.size = w.heap.size + 4 ∧ Blk ((((w.alloc (.cells #[.pointer none] 31)).alloc (.cells #[.int .i64 0] 3)).alloc (.cells #[.int .i64 0] 32)).alloc (.cells #[.slice A L.length c, .int .i64 i] 153)) w.heap.size 31 #[.pointer none] ∧ Blk ((((w.alloc (.cells #[.pointer none] 31)).alloc (.cells #[.int .i64 0] 3)).alloc (.cells #[.int .i64 0] 32)).alloc (.cells #[.slice A L.length c, .int .i64 i] 153)) (w.heap.size + 1) 3 #[.int .i64 0] ∧ Blk ((((w.alloc (.cells #[.pointer none] 31)).alloc (.cells #[.int .i64 0] 3)).alloc (.cells #[.int .i64 0] 32)).alloc (.cells #[.slice A L.length c, .int .i64 i] 153)) (w.heap.size + 1 + 1) 32 #[.int .i64 0] ∧ Blk ((((w.alloc (.cells #[.pointer none] 31)).alloc (.cells #[.int .i64 0] 3)).alloc (.cells #[.int .i64 0] 32)).alloc (.cells #[.slice A L.length c, .int .i64 i] 153)) (w.heap.size + 1 + 1 + 1) 153 #[.slice A L.length c, .int .i64 i] := by
 have hn : ∀ (W : World) (o : Obj) (m : Nat), W.heap.size = m → (W.alloc o).heap[m]? = some o := fun W o m h => by rw [← h]; exact heap_alloc_new W o
 have ho : ∀ (W : World) (o o' : Obj) (m : Nat), W.heap[m]? = some o' → (W.alloc o).heap[m]? = some o' := fun W o o' m h => (Below.heap_alloc W o m (obj_lt h)).trans h
 have ha : ∀ {W : World} (h : Below w.heap.size w W) (o : Obj), Below w.heap.size w (W.alloc o) := fun h o => h.alloc h.size o
 refine ⟨ha (ha (ha (ha (Below.refl _ _) _) _) _) _, by simp [World.size_alloc], ?_, ?_, ?_, ?_⟩
 ·exact ho _ _ _ _ (ho _ _ _ _ (ho _ _ _ _ (hn _ _ _ rfl)))
 ·exact ho _ _ _ _ (ho _ _ _ _ (hn _ _ _ (by simp [World.size_alloc])))
 ·exact ho _ _ _ _ (hn _ _ _ (by simp [World.size_alloc]))
 ·exact hn _ _ _ (by simp [World.size_alloc])
set_option maxRecDepth 100000 in set_option maxHeartbeats 6400000 in
theorem parse_expr (sp : List PT → Nat → Except Nat (T1 × Nat)) (hF : ∀ (w0 : World) (br c : Nat) (A : Option Addr) (L : List PT), Toks w0 br A L → FnOK 120 (sp L) 0 w0 br A c L)
 (A : Option Addr) (c : Nat) (L : List PT) (i : Nat) (hi : i ≤ 60000) (hL : L.length ≤ 20000) (w : World) (hA : Reads w w.heap.size 5 A L.length (flatP L)) (hlow : ∀ ad, A = some ad → ad.block < w.heap.size) :
 Calls Tryz.prog 119 #[.slice A L.length c, .int .i64 i, .func (.func 120) #[] #[]] w (ParR w (sp L i)) := by
 have hmf : ∀ (fn : Fn) (first cap : Array Value) (w : World), (Instr.makeFunc fn first cap).run Tryz.prog w = .ok (.func fn first cap) w := fun _ _ _ _ => rfl
 have x0 : (0 : Int) ≤ (i : Int) := by omega
 have x1 : ¬ (i : Int) < 0 := by omega
 have HF := qh hF
 have HA := qh hA
 clear hF hA
 go_enter_defers Tryz.func119, Tryz.ntmps119
 go_wp2_with fail
 obtain ⟨hb0, hs0, k1, k2, k3, kr⟩ := par_world w A c L i
 generalize ((((w.alloc (.cells #[.pointer none] 31)).alloc (.cells #[.int .i64 0] 3)).alloc (.cells #[.int .i64 0] 32)).alloc (.cells #[.slice A L.length c, .int .i64 i] 153)) = w0 at *
 have HT : Hid (Toks w0 (w.heap.size + 1 + 1 + 1) A L) := qh ⟨(HA.out.below hb0).more hb0.size, by omega, fun ad e => by have := hlow ad e; omega, hL⟩
 have H := qh (PG.start (⟨kr, ⟨rfl, rfl, rfl, Nat.le_refl _, fun _ _ _ => rfl⟩⟩ : PInv w0 w0 (w.heap.size + 1 + 1 + 1) A c L i))
 have d1 := HF.out w0 _ c A L HT.out i (Nat.zero_le _) hi w0 H.out.1
 have hbz : w.heap.size + 1 + 1 + 1 < w0.heap.size := by omega
 clear kr
 cases hx : sp L i with
 | error k =>
   rw [hx] at d1
   have D1 := qh d1
   have K := qh (And.intro k1 (And.intro k2 k3))
   have HB0 := qh hb0
   clear d1 k1 k2 k3 hb0
   ((with_reducible refine D1.out.mono ?_); rintro e wv ⟨rfl, hg⟩)
   have g1 := K.out.1.grown hg (by intro e; injection e with e; omega)
   have g2 := K.out.2.1.grown hg (by intro e; injection e with e; omega)
   have g3 := K.out.2.2.grown hg (by intro e; injection e with e; omega)
   refine leaves_cons (f := 140) (args := #[.pointer (some ⟨w.heap.size, 0, none⟩), .pointer (some ⟨w.heap.size + 1, 0, none⟩), .pointer (some ⟨w.heap.size + 1 + 1, 0, none⟩)]) (by simp) (by simp [go_sem]) ?_
   refine (catch_bad w.heap.size (w.heap.size + 1) (w.heap.size + 1 + 1) k wv (g1.cell 0) (g2.cell 0) (g3.cell 0) (g1.frozen 0) (g2.frozen 0) (g3.frozen 0) (by omega) (by omega)).mono ?_
   rintro e u' w'' ⟨rfl, rfl, rfl⟩
   have z1 := ((((g1.set_ 0 (.pointer none)).far (p := ⟨w.heap.size + 1, 0, none⟩) (show w.heap.size ≠ w.heap.size + 1 by omega) (.int .i64 k)).far (p := ⟨w.heap.size + 1 + 1, 0, none⟩) (show w.heap.size ≠ w.heap.size + 1 + 1 by omega) (.int .i64 60)).drewN 1).cell 0
   have z2 := ((((g2.far (p := ⟨w.heap.size, 0, none⟩) (show w.heap.size + 1 ≠ w.heap.size by omega) (.pointer none)).set_ 0 (.int .i64 k)).far (p := ⟨w.heap.size + 1 + 1, 0, none⟩) (show w.heap.size + 1 ≠ w.heap.size + 1 + 1 by omega) (.int .i64 60)).drewN 1).cell 0
   have z3 := ((((g3.far (p := ⟨w.heap.size, 0, none⟩) (show w.heap.size + 1 + 1 ≠ w.heap.size by omega) (.pointer none)).far (p := ⟨w.heap.size + 1, 0, none⟩) (show w.heap.size + 1 + 1 ≠ w.heap.size + 1 by omega) (.int .i64 k)).set_ 0 (.int .i64 60)).drewN 1).cell 0
   have hbv : Below w.heap.size w wv := Lx.below_grown HB0.out hg (fun k e => by injection e with e; omega) HB0.out.size
   have hbz2 : Below w.heap.size w ((((wv.setCell ⟨w.heap.size, 0, none⟩ (.pointer none)).setCell ⟨w.heap.size + 1, 0, none⟩ (.int .i64 k)).setCell ⟨w.heap.size + 1 + 1, 0, none⟩ (.int .i64 60)).drewN 1) := Lx.below_drewN (((hbv.setCell (Nat.le_refl _) _).setCell (Nat.le_succ _) _).setCell (show w.heap.size ≤ w.heap.size + 1 + 1 by omega) _) 1
   have HBZ := qh hbz2
   clear g1 g2 g3 hg hbv hbz2
   change Leaves _ _ _ _ _ _ ((((wv.setCell ⟨w.heap.size, 0, none⟩ (.pointer none)).setCell ⟨w.heap.size + 1, 0, none⟩ (.int .i64 k)).setCell ⟨w.heap.size + 1 + 1, 0, none⟩ (.int .i64 60)).drewN 1)
   generalize (((wv.setCell ⟨w.heap.size, 0, none⟩ (.pointer none)).setCell ⟨w.heap.size + 1, 0, none⟩ (.int .i64 k)).setCell ⟨w.heap.size + 1 + 1, 0, none⟩ (.int .i64 60)).drewN 1 = z at *
   have z1' : z.cell? ⟨w.heap.size, 0, none⟩ = some (.pointer none) := by simpa using z1
   have z2' : z.cell? ⟨w.heap.size + 1, 0, none⟩ = some (.int .i64 k) := by simpa using z2
   have z3' : z.cell? ⟨w.heap.size + 1 + 1, 0, none⟩ = some (.int .i64 60) := by simpa using z3
   clear z1 z2 z3
   simp [Leaves, settle, results, Tryz.results119, go_sem, z1', z2', z3']
   exact ⟨rfl, HBZ.out⟩
 | ok r =>
   obtain ⟨x, j⟩ := r
   rw [hx] at d1
   have D1 := qh d1
   have K := qh (And.intro k1 (And.intro k2 k3))
   have HB0 := qh hb0
   clear d1 k1 k2 k3 hb0
   ((with_reducible refine D1.out.mono ?_); rintro e wv ⟨b, rfl, hp, hg, hr⟩)
   have g1 := K.out.1.grown hg (by intro e; injection e with e; omega)
   have g2 := K.out.2.1.grown hg (by intro e; injection e with e; omega)
   have g3 := K.out.2.2.grown hg (by intro e; injection e with e; omega)
   have m1 := g1.cell 0
   have m2 := g2.cell 0
   have m3 := g3.cell 0
   have f1 := g1.frozen 0
   have f2 := g2.frozen 0
   have f3 := g3.frozen 0
   obtain ⟨a1, a2, a3⟩ := hp.at_
   have HR := qh hr
   have HP := qh hp
   have HG := qh hg
   have G := qh (And.intro g1 (And.intro g2 g3))
   simp only [List.getElem?_toArray, List.getElem?_cons_zero] at m1 m2 m3
   clear hp hg hr g1 g2 g3
   go_wp2
   have hq1 := G.out.1.set_ 0 (.pointer (some ⟨b, 0, none⟩))
   have hq2 := G.out.2.1.far (p := ⟨w.heap.size, 0, none⟩) (show w.heap.size + 1 ≠ w.heap.size by omega) (.pointer (some ⟨b, 0, none⟩))
   have hq3 := G.out.2.2.far (p := ⟨w.heap.size, 0, none⟩) (show w.heap.size + 1 + 1 ≠ w.heap.size by omega) (.pointer (some ⟨b, 0, none⟩))
   have hqr := HP.out.row.far (p := ⟨w.heap.size, 0, none⟩) (show w.heap.size + 1 + 1 + 1 ≠ w.heap.size by omega) (.pointer (some ⟨b, 0, none⟩))
   have hbv : Below w.heap.size w (wv.setCell ⟨w.heap.size, 0, none⟩ (.pointer (some ⟨b, 0, none⟩))) := (Lx.below_grown HB0.out HG.out (fun k e => by injection e with e; omega) HB0.out.size).setCell (Nat.le_refl _) _
   have hr2 : RepS (fun y => w.heap.size + 4 ≤ y) (wv.setCell ⟨w.heap.size, 0, none⟩ (.pointer (some ⟨b, 0, none⟩))) (.node x.1 x.2 .no) [.pointer (some ⟨b, 0, none⟩)] := (HR.out.more (S' := fun y => w.heap.size + 4 ≤ y) fun y hy _ => by omega).keep (by rw [World.size_setCell]; exact Nat.le_refl _) (fun y hy _ => Below.heap_setCell _ _ _ _ (show y ≠ w.heap.size by omega)) (fun y h _ => h)
   have m1 := hq1.cell 0
   have m2 := hq2.cell 0
   have m3 := hq3.cell 0
   have f1 := hq1.frozen 0
   have f2 := hq2.frozen 0
   have f3 := hq3.frozen 0
   have mr := hqr.cell 1
   have Q := qh (And.intro hq1 (And.intro hq2 (And.intro hq3 (And.intro hbv hr2))))
   clear hq1 hq2 hq3 hqr hbv hr2 a1 a2 a3 G HP HG HR
   generalize wv.setCell ⟨w.heap.size, 0, none⟩ (.pointer (some ⟨b, 0, none⟩)) = wz at *
   simp only [List.getElem?_toArray, List.getElem?_cons_zero, List.getElem?_cons_succ] at m1 m2 m3 mr
   go_region
   all_goals
    go_wp2
    obtain ⟨hq1, hq2, hq3, hbv, hr2⟩ := Q.out
    refine leaves_cons (f := 140) (args := #[.pointer (some ⟨w.heap.size, 0, none⟩), .pointer (some ⟨w.heap.size + 1, 0, none⟩), .pointer (some ⟨w.heap.size + 1 + 1, 0, none⟩)]) (by simp) (by simp [go_sem]) ?_
    refine (catch_idle ⟨w.heap.size, 0, none⟩ ⟨w.heap.size + 1, 0, none⟩ ⟨w.heap.size + 1 + 1, 0, none⟩ _).mono ?_
    rintro e u' w'' ⟨rfl, rfl, rfl⟩
    have z1 := ((((hq1.set_ 0 (.pointer (some ⟨b, 0, none⟩))).far (p := ⟨w.heap.size + 1, 0, none⟩) (show w.heap.size ≠ w.heap.size + 1 by omega) (.int .i64 j)).far (p := ⟨w.heap.size + 1 + 1, 0, none⟩) (show w.heap.size ≠ w.heap.size + 1 + 1 by omega) (.int .i64 0)).drewN 1).cell 0
    have z2 := ((((hq2.far (p := ⟨w.heap.size, 0, none⟩) (show w.heap.size + 1 ≠ w.heap.size by omega) (.pointer (some ⟨b, 0, none⟩))).set_ 0 (.int .i64 j)).far (p := ⟨w.heap.size + 1 + 1, 0, none⟩) (show w.heap.size + 1 ≠ w.heap.size + 1 + 1 by omega) (.int .i64 0)).drewN 1).cell 0
    have z3 := ((((hq3.far (p := ⟨w.heap.size, 0, none⟩) (show w.heap.size + 1 + 1 ≠ w.heap.size by omega) (.pointer (some ⟨b, 0, none⟩))).far (p := ⟨w.heap.size + 1, 0, none⟩) (show w.heap.size + 1 + 1 ≠ w.heap.size + 1 by omega) (.int .i64 j)).set_ 0 (.int .i64 0)).drewN 1).cell 0
    have HBZ := qh (Lx.below_drewN (((hbv.setCell (p := ⟨w.heap.size, 0, none⟩) (Nat.le_refl _) (.pointer (some ⟨b, 0, none⟩))).setCell (p := ⟨w.heap.size + 1, 0, none⟩) (Nat.le_succ _) (.int .i64 j)).setCell (p := ⟨w.heap.size + 1 + 1, 0, none⟩) (show w.heap.size ≤ w.heap.size + 1 + 1 by omega) (.int .i64 0)) 1)
    have HRZ : Hid (RepS (fun y => w.heap.size ≤ y) ((((wz.setCell ⟨w.heap.size, 0, none⟩ (.pointer (some ⟨b, 0, none⟩))).setCell ⟨w.heap.size + 1, 0, none⟩ (.int .i64 j)).setCell ⟨w.heap.size + 1 + 1, 0, none⟩ (.int .i64 0)).drewN 1) (.node x.1 x.2 .no) [.pointer (some ⟨b, 0, none⟩)]) := qh (rep_set3 hr2 _ _ _ _ _ _ (fun y hy => by simp only; omega) (fun y hy => by simp only; omega) (fun y hy => by simp only; omega) (fun y hy => by omega))
    clear hq1 hq2 hq3 hbv hr2 Q m1 m2 m3 mr f1 f2 f3
    change Leaves _ _ _ _ _ _ ((((wz.setCell ⟨w.heap.size, 0, none⟩ (.pointer (some ⟨b, 0, none⟩))).setCell ⟨w.heap.size + 1, 0, none⟩ (.int .i64 j)).setCell ⟨w.heap.size + 1 + 1, 0, none⟩ (.int .i64 0)).drewN 1)
    generalize (((wz.setCell ⟨w.heap.size, 0, none⟩ (.pointer (some ⟨b, 0, none⟩))).setCell ⟨w.heap.size + 1, 0, none⟩ (.int .i64 j)).setCell ⟨w.heap.size + 1 + 1, 0, none⟩ (.int .i64 0)).drewN 1 = z at *
    have z1' : z.cell? ⟨w.heap.size, 0, none⟩ = some (.pointer (some ⟨b, 0, none⟩)) := by simpa using z1
    have z2' : z.cell? ⟨w.heap.size + 1, 0, none⟩ = some (.int .i64 j) := by simpa using z2
    have z3' : z.cell? ⟨w.heap.size + 1 + 1, 0, none⟩ = some (.int .i64 0) := by simpa using z3
    clear z1 z2 z3
    rw [hx]
    simp [Leaves, settle, results, Tryz.results119, go_sem, z1', z2', z3']
    exact ⟨b, rfl, HRZ.out, HBZ.out⟩
end Go.Proofs.YtkemhmfdooghkaaGreatDoor.Ex
namespace Go.Proofs.YtkemhmfdooghkaaGreatDoor.Ex
open Go.RowKit
open Tr (Nd Fo RepS RepN Rep)
open Lx (Tk noTk Blk run_store_complexL TokAt)
open Fl
attribute [local go_sem] run_store_complexL run_field1 run_field3
set_option maxRecDepth 100000 in set_option maxHeartbeats 6400000 in
theorem labels1_any {w0 : World} {br c : Nat} {A : Option Addr} {L : List PT} (ht : Toks w0 br A L) : FnOK 155 (labelsP L) 0 w0 br A c L := by
 intro i hlo hi w h
 have hbr0 := h.row.lt
 have hlen := ht.len
 have H := qh (PG.start h)
 obtain ⟨k, p1, p2, q1, q2, t, n, e1, e2⟩ := val_form (tk L i)
 have hp : pos L i = (p1, p2) := by unfold pos; rw [e1]
 have n1 := now_any ht (by omega) w h
 rw [e2] at n1
 have N1 := qh n1
 have MN := qh (fun W h => many_elem (c := c) ht (elem_all ht) (elemP_ok exprP_ok) i (Nat.zero_le _) hi W h)
 have HS0 := qh (show labelsP L i = (match manyP L (elemP L (exprP L)) i with
  | .error k => .error k
  | .ok (l, j) => .ok (mk 29 (p1, p2) sNil 0 l, j)) by rw [← hp]; rfl)
 have HT := qh ht
 have hmf : ∀ (fn : Fn) (first cap : Array Value) (w : World), (Instr.makeFunc fn first cap).run Tryz.prog w = .ok (.func fn first cap) w := fun _ _ _ _ => rfl
 clear n1 e1 e2 h hp ht
 generalize labelsP L i = res at *
 go_enter Tryz.func155, Tryz.ntmps155
 go_wp2_with fail
 ((with_reducible refine (N1.out).mono ?_); rintro e w1 ⟨rfl, hb⟩)
 have H := qh (H.out.below hb)
 clear hb
 have d1 := MN.out w1 H.out.1
 cases hx : manyP L (elemP L (exprP L)) i with
 | error k =>
   rw [hx] at d1
   have HS := qh (show res = .error k by rw [HS0.out, hx])
   have D1 := qh d1
   clear d1 hx HS0
   go_wp2_with fail
   ((with_reducible refine (D1.out).mono ?_); rintro e w1 ⟨rfl, hb⟩)
   have H3 := qh (grown_trans H.out.2 hb)
   clear hb
   go_wp2
   refine ⟨rfl, ?_⟩
   rw [HS.out]
   exact ⟨rfl, H3.out⟩
 | ok r =>
   obtain ⟨l, j⟩ := r
   rw [hx] at d1
   have HS := qh (show res = .ok (mk 29 (p1, p2) sNil 0 l, j) by rw [HS0.out, hx])
   have D1 := qh d1
   clear d1 hx HS0
   go_wp2_with fail
   ((with_reducible refine D1.out.mono ?_); rintro e w2 ⟨A', c', vs, rfl, hp, hg, hrd, hr, hvl, hone, hll, hlc⟩)
   have H2 := qh (H.out.trans ⟨hp, hg⟩)
   have NW := qh (new_at (B := w.heap.size) (w := w2) H2.out.2.size 29 29 rfl p1 p2 sNil 0 A' c' vs.length vs (forest l) rfl (by omega) hrd (repN_of (hr.more (S' := fun y => w.heap.size ≤ y) fun y hy _ => Nat.le_trans H.out.2.size hy)))
   clear hp hg hrd hr hvl hone hll hlc H
   go_wp2_with fail
   ((with_reducible refine NW.out.mono ?_); rintro e w3 ⟨b, rfl, hb, hr⟩)
   have H3 := qh (H2.out.below hb)
   have HR := qh hr
   clear hb hr H2
   go_wp2
   go_ret
   rw [HS.out]
   exact ⟨b, rfl, H3.out.1, H3.out.2, HR.out⟩
end Go.Proofs.YtkemhmfdooghkaaGreatDoor.Ex
namespace Go.Proofs.YtkemhmfdooghkaaGreatDoor.Ex
open Go.RowKit
open Tr (Nd Fo RepS RepN Rep)
open Lx (Tk noTk Blk run_store_complexL TokAt)
open Fl
attribute [local go_sem] run_store_complexL run_field1 run_field3
set_option maxRecDepth 100000 in set_option maxHeartbeats 6400000 in
theorem parse_designator (sp : List PT → Nat → Except Nat (T1 × Nat)) (hF : ∀ (w0 : World) (br c : Nat) (A : Option Addr) (L : List PT), Toks w0 br A L → FnOK 158 (sp L) 0 w0 br A c L)
 (A : Option Addr) (c : Nat) (L : List PT) (i : Nat) (hi : i ≤ 60000) (hL : L.length ≤ 20000) (w : World) (hA : Reads w w.heap.size 5 A L.length (flatP L)) (hlow : ∀ ad, A = some ad → ad.block < w.heap.size) :
 Calls Tryz.prog 119 #[.slice A L.length c, .int .i64 i, .func (.func 158) #[] #[]] w (ParR w (sp L i)) := by
 have hmf : ∀ (fn : Fn) (first cap : Array Value) (w : World), (Instr.makeFunc fn first cap).run Tryz.prog w = .ok (.func fn first cap) w := fun _ _ _ _ => rfl
 have x0 : (0 : Int) ≤ (i : Int) := by omega
 have x1 : ¬ (i : Int) < 0 := by omega
 have HF := qh hF
 have HA := qh hA
 clear hF hA
 go_enter_defers Tryz.func119, Tryz.ntmps119
 go_wp2_with fail
 obtain ⟨hb0, hs0, k1, k2, k3, kr⟩ := par_world w A c L i
 generalize ((((w.alloc (.cells #[.pointer none] 31)).alloc (.cells #[.int .i64 0] 3)).alloc (.cells #[.int .i64 0] 32)).alloc (.cells #[.slice A L.length c, .int .i64 i] 153)) = w0 at *
 have HT : Hid (Toks w0 (w.heap.size + 1 + 1 + 1) A L) := qh ⟨(HA.out.below hb0).more hb0.size, by omega, fun ad e => by have := hlow ad e; omega, hL⟩
 have H := qh (PG.start (⟨kr, ⟨rfl, rfl, rfl, Nat.le_refl _, fun _ _ _ => rfl⟩⟩ : PInv w0 w0 (w.heap.size + 1 + 1 + 1) A c L i))
 have d1 := HF.out w0 _ c A L HT.out i (Nat.zero_le _) hi w0 H.out.1
 have hbz : w.heap.size + 1 + 1 + 1 < w0.heap.size := by omega
 clear kr
 cases hx : sp L i with
 | error k =>
   rw [hx] at d1
   have D1 := qh d1
   have K := qh (And.intro k1 (And.intro k2 k3))
   have HB0 := qh hb0
   clear d1 k1 k2 k3 hb0
   ((with_reducible refine D1.out.mono ?_); rintro e wv ⟨rfl, hg⟩)
   have g1 := K.out.1.grown hg (by intro e; injection e with e; omega)
   have g2 := K.out.2.1.grown hg (by intro e; injection e with e; omega)
   have g3 := K.out.2.2.grown hg (by intro e; injection e with e; omega)
   refine leaves_cons (f := 140) (args := #[.pointer (some ⟨w.heap.size, 0, none⟩), .pointer (some ⟨w.heap.size + 1, 0, none⟩), .pointer (some ⟨w.heap.size + 1 + 1, 0, none⟩)]) (by simp) (by simp [go_sem]) ?_
   refine (catch_bad w.heap.size (w.heap.size + 1) (w.heap.size + 1 + 1) k wv (g1.cell 0) (g2.cell 0) (g3.cell 0) (g1.frozen 0) (g2.frozen 0) (g3.frozen 0) (by omega) (by omega)).mono ?_
   rintro e u' w'' ⟨rfl, rfl, rfl⟩
   have z1 := ((((g1.set_ 0 (.pointer none)).far (p := ⟨w.heap.size + 1, 0, none⟩) (show w.heap.size ≠ w.heap.size + 1 by omega) (.int .i64 k)).far (p := ⟨w.heap.size + 1 + 1, 0, none⟩) (show w.heap.size ≠ w.heap.size + 1 + 1 by omega) (.int .i64 60)).drewN 1).cell 0
   have z2 := ((((g2.far (p := ⟨w.heap.size, 0, none⟩) (show w.heap.size + 1 ≠ w.heap.size by omega) (.pointer none)).set_ 0 (.int .i64 k)).far (p := ⟨w.heap.size + 1 + 1, 0, none⟩) (show w.heap.size + 1 ≠ w.heap.size + 1 + 1 by omega) (.int .i64 60)).drewN 1).cell 0
   have z3 := ((((g3.far (p := ⟨w.heap.size, 0, none⟩) (show w.heap.size + 1 + 1 ≠ w.heap.size by omega) (.pointer none)).far (p := ⟨w.heap.size + 1, 0, none⟩) (show w.heap.size + 1 + 1 ≠ w.heap.size + 1 by omega) (.int .i64 k)).set_ 0 (.int .i64 60)).drewN 1).cell 0
   have hbv : Below w.heap.size w wv := Lx.below_grown HB0.out hg (fun k e => by injection e with e; omega) HB0.out.size
   have hbz2 : Below w.heap.size w ((((wv.setCell ⟨w.heap.size, 0, none⟩ (.pointer none)).setCell ⟨w.heap.size + 1, 0, none⟩ (.int .i64 k)).setCell ⟨w.heap.size + 1 + 1, 0, none⟩ (.int .i64 60)).drewN 1) := Lx.below_drewN (((hbv.setCell (Nat.le_refl _) _).setCell (Nat.le_succ _) _).setCell (show w.heap.size ≤ w.heap.size + 1 + 1 by omega) _) 1
   have HBZ := qh hbz2
   clear g1 g2 g3 hg hbv hbz2
   change Leaves _ _ _ _ _ _ ((((wv.setCell ⟨w.heap.size, 0, none⟩ (.pointer none)).setCell ⟨w.heap.size + 1, 0, none⟩ (.int .i64 k)).setCell ⟨w.heap.size + 1 + 1, 0, none⟩ (.int .i64 60)).drewN 1)
   generalize (((wv.setCell ⟨w.heap.size, 0, none⟩ (.pointer none)).setCell ⟨w.heap.size + 1, 0, none⟩ (.int .i64 k)).setCell ⟨w.heap.size + 1 + 1, 0, none⟩ (.int .i64 60)).drewN 1 = z at *
   have z1' : z.cell? ⟨w.heap.size, 0, none⟩ = some (.pointer none) := by simpa using z1
   have z2' : z.cell? ⟨w.heap.size + 1, 0, none⟩ = some (.int .i64 k) := by simpa using z2
   have z3' : z.cell? ⟨w.heap.size + 1 + 1, 0, none⟩ = some (.int .i64 60) := by simpa using z3
   clear z1 z2 z3
   simp [Leaves, settle, results, Tryz.results119, go_sem, z1', z2', z3']
   exact ⟨rfl, HBZ.out⟩
 | ok r =>
   obtain ⟨x, j⟩ := r
   rw [hx] at d1
   have D1 := qh d1
   have K := qh (And.intro k1 (And.intro k2 k3))
   have HB0 := qh hb0
   clear d1 k1 k2 k3 hb0
   ((with_reducible refine D1.out.mono ?_); rintro e wv ⟨b, rfl, hp, hg, hr⟩)
   have g1 := K.out.1.grown hg (by intro e; injection e with e; omega)
   have g2 := K.out.2.1.grown hg (by intro e; injection e with e; omega)
   have g3 := K.out.2.2.grown hg (by intro e; injection e with e; omega)
   have m1 := g1.cell 0
   have m2 := g2.cell 0
   have m3 := g3.cell 0
   have f1 := g1.frozen 0
   have f2 := g2.frozen 0
   have f3 := g3.frozen 0
   obtain ⟨a1, a2, a3⟩ := hp.at_
   have HR := qh hr
   have HP := qh hp
   have HG := qh hg
   have G := qh (And.intro g1 (And.intro g2 g3))
   simp only [List.getElem?_toArray, List.getElem?_cons_zero] at m1 m2 m3
   clear hp hg hr g1 g2 g3
   go_wp2
   have hq1 := G.out.1.set_ 0 (.pointer (some ⟨b, 0, none⟩))
   have hq2 := G.out.2.1.far (p := ⟨w.heap.size, 0, none⟩) (show w.heap.size + 1 ≠ w.heap.size by omega) (.pointer (some ⟨b, 0, none⟩))
   have hq3 := G.out.2.2.far (p := ⟨w.heap.size, 0, none⟩) (show w.heap.size + 1 + 1 ≠ w.heap.size by omega) (.pointer (some ⟨b, 0, none⟩))
   have hqr := HP.out.row.far (p := ⟨w.heap.size, 0, none⟩) (show w.heap.size + 1 + 1 + 1 ≠ w.heap.size by omega) (.pointer (some ⟨b, 0, none⟩))
   have hbv : Below w.heap.size w (wv.setCell ⟨w.heap.size, 0, none⟩ (.pointer (some ⟨b, 0, none⟩))) := (Lx.below_grown HB0.out HG.out (fun k e => by injection e with e; omega) HB0.out.size).setCell (Nat.le_refl _) _
   have hr2 : RepS (fun y => w.heap.size + 4 ≤ y) (wv.setCell ⟨w.heap.size, 0, none⟩ (.pointer (some ⟨b, 0, none⟩))) (.node x.1 x.2 .no) [.pointer (some ⟨b, 0, none⟩)] := (HR.out.more (S' := fun y => w.heap.size + 4 ≤ y) fun y hy _ => by omega).keep (by rw [World.size_setCell]; exact Nat.le_refl _) (fun y hy _ => Below.heap_setCell _ _ _ _ (show y ≠ w.heap.size by omega)) (fun y h _ => h)
   have m1 := hq1.cell 0
   have m2 := hq2.cell 0
   have m3 := hq3.cell 0
   have f1 := hq1.frozen 0
   have f2 := hq2.frozen 0
   have f3 := hq3.frozen 0
   have mr := hqr.cell 1
   have Q := qh (And.intro hq1 (And.intro hq2 (And.intro hq3 (And.intro hbv hr2))))
   clear hq1 hq2 hq3 hqr hbv hr2 a1 a2 a3 G HP HG HR
   generalize wv.setCell ⟨w.heap.size, 0, none⟩ (.pointer (some ⟨b, 0, none⟩)) = wz at *
   simp only [List.getElem?_toArray, List.getElem?_cons_zero, List.getElem?_cons_succ] at m1 m2 m3 mr
   go_region
   all_goals
    go_wp2
    obtain ⟨hq1, hq2, hq3, hbv, hr2⟩ := Q.out
    refine leaves_cons (f := 140) (args := #[.pointer (some ⟨w.heap.size, 0, none⟩), .pointer (some ⟨w.heap.size + 1, 0, none⟩), .pointer (some ⟨w.heap.size + 1 + 1, 0, none⟩)]) (by simp) (by simp [go_sem]) ?_
    refine (catch_idle ⟨w.heap.size, 0, none⟩ ⟨w.heap.size + 1, 0, none⟩ ⟨w.heap.size + 1 + 1, 0, none⟩ _).mono ?_
    rintro e u' w'' ⟨rfl, rfl, rfl⟩
    have z1 := ((((hq1.set_ 0 (.pointer (some ⟨b, 0, none⟩))).far (p := ⟨w.heap.size + 1, 0, none⟩) (show w.heap.size ≠ w.heap.size + 1 by omega) (.int .i64 j)).far (p := ⟨w.heap.size + 1 + 1, 0, none⟩) (show w.heap.size ≠ w.heap.size + 1 + 1 by omega) (.int .i64 0)).drewN 1).cell 0
    have z2 := ((((hq2.far (p := ⟨w.heap.size, 0, none⟩) (show w.heap.size + 1 ≠ w.heap.size by omega) (.pointer (some ⟨b, 0, none⟩))).set_ 0 (.int .i64 j)).far (p := ⟨w.heap.size + 1 + 1, 0, none⟩) (show w.heap.size + 1 ≠ w.heap.size + 1 + 1 by omega) (.int .i64 0)).drewN 1).cell 0
    have z3 := ((((hq3.far (p := ⟨w.heap.size, 0, none⟩) (show w.heap.size + 1 + 1 ≠ w.heap.size by omega) (.pointer (some ⟨b, 0, none⟩))).far (p := ⟨w.heap.size + 1, 0, none⟩) (show w.heap.size + 1 + 1 ≠ w.heap.size + 1 by omega) (.int .i64 j)).set_ 0 (.int .i64 0)).drewN 1).cell 0
    have HBZ := qh (Lx.below_drewN (((hbv.setCell (p := ⟨w.heap.size, 0, none⟩) (Nat.le_refl _) (.pointer (some ⟨b, 0, none⟩))).setCell (p := ⟨w.heap.size + 1, 0, none⟩) (Nat.le_succ _) (.int .i64 j)).setCell (p := ⟨w.heap.size + 1 + 1, 0, none⟩) (show w.heap.size ≤ w.heap.size + 1 + 1 by omega) (.int .i64 0)) 1)
    have HRZ : Hid (RepS (fun y => w.heap.size ≤ y) ((((wz.setCell ⟨w.heap.size, 0, none⟩ (.pointer (some ⟨b, 0, none⟩))).setCell ⟨w.heap.size + 1, 0, none⟩ (.int .i64 j)).setCell ⟨w.heap.size + 1 + 1, 0, none⟩ (.int .i64 0)).drewN 1) (.node x.1 x.2 .no) [.pointer (some ⟨b, 0, none⟩)]) := qh (rep_set3 hr2 _ _ _ _ _ _ (fun y hy => by simp only; omega) (fun y hy => by simp only; omega) (fun y hy => by simp only; omega) (fun y hy => by omega))
    clear hq1 hq2 hq3 hbv hr2 Q m1 m2 m3 mr f1 f2 f3
    change Leaves _ _ _ _ _ _ ((((wz.setCell ⟨w.heap.size, 0, none⟩ (.pointer (some ⟨b, 0, none⟩))).setCell ⟨w.heap.size + 1, 0, none⟩ (.int .i64 j)).setCell ⟨w.heap.size + 1 + 1, 0, none⟩ (.int .i64 0)).drewN 1)
    generalize (((wz.setCell ⟨w.heap.size, 0, none⟩ (.pointer (some ⟨b, 0, none⟩))).setCell ⟨w.heap.size + 1, 0, none⟩ (.int .i64 j)).setCell ⟨w.heap.size + 1 + 1, 0, none⟩ (.int .i64 0)).drewN 1 = z at *
    have z1' : z.cell? ⟨w.heap.size, 0, none⟩ = some (.pointer (some ⟨b, 0, none⟩)) := by simpa using z1
    have z2' : z.cell? ⟨w.heap.size + 1, 0, none⟩ = some (.int .i64 j) := by simpa using z2
    have z3' : z.cell? ⟨w.heap.size + 1 + 1, 0, none⟩ = some (.int .i64 0) := by simpa using z3
    clear z1 z2 z3
    rw [hx]
    simp [Leaves, settle, results, Tryz.results119, go_sem, z1', z2', z3']
    exact ⟨b, rfl, HRZ.out, HBZ.out⟩
set_option maxRecDepth 100000 in set_option maxHeartbeats 6400000 in
theorem parse_qualident (sp : List PT → Nat → Except Nat (T1 × Nat)) (hF : ∀ (w0 : World) (br c : Nat) (A : Option Addr) (L : List PT), Toks w0 br A L → FnOK 167 (sp L) 0 w0 br A c L)
 (A : Option Addr) (c : Nat) (L : List PT) (i : Nat) (hi : i ≤ 60000) (hL : L.length ≤ 20000) (w : World) (hA : Reads w w.heap.size 5 A L.length (flatP L)) (hlow : ∀ ad, A = some ad → ad.block < w.heap.size) :
 Calls Tryz.prog 119 #[.slice A L.length c, .int .i64 i, .func (.func 167) #[] #[]] w (ParR w (sp L i)) := by
 have hmf : ∀ (fn : Fn) (first cap : Array Value) (w : World), (Instr.makeFunc fn first cap).run Tryz.prog w = .ok (.func fn first cap) w := fun _ _ _ _ => rfl
 have x0 : (0 : Int) ≤ (i : Int) := by omega
 have x1 : ¬ (i : Int) < 0 := by omega
 have HF := qh hF
 have HA := qh hA
 clear hF hA
 go_enter_defers Tryz.func119, Tryz.ntmps119
 go_wp2_with fail
 obtain ⟨hb0, hs0, k1, k2, k3, kr⟩ := par_world w A c L i
 generalize ((((w.alloc (.cells #[.pointer none] 31)).alloc (.cells #[.int .i64 0] 3)).alloc (.cells #[.int .i64 0] 32)).alloc (.cells #[.slice A L.length c, .int .i64 i] 153)) = w0 at *
 have HT : Hid (Toks w0 (w.heap.size + 1 + 1 + 1) A L) := qh ⟨(HA.out.below hb0).more hb0.size, by omega, fun ad e => by have := hlow ad e; omega, hL⟩
 have H := qh (PG.start (⟨kr, ⟨rfl, rfl, rfl, Nat.le_refl _, fun _ _ _ => rfl⟩⟩ : PInv w0 w0 (w.heap.size + 1 + 1 + 1) A c L i))
 have d1 := HF.out w0 _ c A L HT.out i (Nat.zero_le _) hi w0 H.out.1
 have hbz : w.heap.size + 1 + 1 + 1 < w0.heap.size := by omega
 clear kr
 cases hx : sp L i with
 | error k =>
   rw [hx] at d1
   have D1 := qh d1
   have K := qh (And.intro k1 (And.intro k2 k3))
   have HB0 := qh hb0
   clear d1 k1 k2 k3 hb0
   ((with_reducible refine D1.out.mono ?_); rintro e wv ⟨rfl, hg⟩)
   have g1 := K.out.1.grown hg (by intro e; injection e with e; omega)
   have g2 := K.out.2.1.grown hg (by intro e; injection e with e; omega)
   have g3 := K.out.2.2.grown hg (by intro e; injection e with e; omega)
   refine leaves_cons (f := 140) (args := #[.pointer (some ⟨w.heap.size, 0, none⟩), .pointer (some ⟨w.heap.size + 1, 0, none⟩), .pointer (some ⟨w.heap.size + 1 + 1, 0, none⟩)]) (by simp) (by simp [go_sem]) ?_
   refine (catch_bad w.heap.size (w.heap.size + 1) (w.heap.size + 1 + 1) k wv (g1.cell 0) (g2.cell 0) (g3.cell 0) (g1.frozen 0) (g2.frozen 0) (g3.frozen 0) (by omega) (by omega)).mono ?_
   rintro e u' w'' ⟨rfl, rfl, rfl⟩
   have z1 := ((((g1.set_ 0 (.pointer none)).far (p := ⟨w.heap.size + 1, 0, none⟩) (show w.heap.size ≠ w.heap.size + 1 by omega) (.int .i64 k)).far (p := ⟨w.heap.size + 1 + 1, 0, none⟩) (show w.heap.size ≠ w.heap.size + 1 + 1 by omega) (.int .i64 60)).drewN 1).cell 0
   have z2 := ((((g2.far (p := ⟨w.heap.size, 0, none⟩) (show w.heap.size + 1 ≠ w.heap.size by omega) (.pointer none)).set_ 0 (.int .i64 k)).far (p := ⟨w.heap.size + 1 + 1, 0, none⟩) (show w.heap.size + 1 ≠ w.heap.size + 1 + 1 by omega) (.int .i64 60)).drewN 1).cell 0
   have z3 := ((((g3.far (p := ⟨w.heap.size, 0, none⟩) (show w.heap.size + 1 + 1 ≠ w.heap.size by omega) (.pointer none)).far (p := ⟨w.heap.size + 1, 0, none⟩) (show w.heap.size + 1 + 1 ≠ w.heap.size + 1 by omega) (.int .i64 k)).set_ 0 (.int .i64 60)).drewN 1).cell 0
   have hbv : Below w.heap.size w wv := Lx.below_grown HB0.out hg (fun k e => by injection e with e; omega) HB0.out.size
   have hbz2 : Below w.heap.size w ((((wv.setCell ⟨w.heap.size, 0, none⟩ (.pointer none)).setCell ⟨w.heap.size + 1, 0, none⟩ (.int .i64 k)).setCell ⟨w.heap.size + 1 + 1, 0, none⟩ (.int .i64 60)).drewN 1) := Lx.below_drewN (((hbv.setCell (Nat.le_refl _) _).setCell (Nat.le_succ _) _).setCell (show w.heap.size ≤ w.heap.size + 1 + 1 by omega) _) 1
   have HBZ := qh hbz2
   clear g1 g2 g3 hg hbv hbz2
   change Leaves _ _ _ _ _ _ ((((wv.setCell ⟨w.heap.size, 0, none⟩ (.pointer none)).setCell ⟨w.heap.size + 1, 0, none⟩ (.int .i64 k)).setCell ⟨w.heap.size + 1 + 1, 0, none⟩ (.int .i64 60)).drewN 1)
   generalize (((wv.setCell ⟨w.heap.size, 0, none⟩ (.pointer none)).setCell ⟨w.heap.size + 1, 0, none⟩ (.int .i64 k)).setCell ⟨w.heap.size + 1 + 1, 0, none⟩ (.int .i64 60)).drewN 1 = z at *
   have z1' : z.cell? ⟨w.heap.size, 0, none⟩ = some (.pointer none) := by simpa using z1
   have z2' : z.cell? ⟨w.heap.size + 1, 0, none⟩ = some (.int .i64 k) := by simpa using z2
   have z3' : z.cell? ⟨w.heap.size + 1 + 1, 0, none⟩ = some (.int .i64 60) := by simpa using z3
   clear z1 z2 z3
   simp [Leaves, settle, results, Tryz.results119, go_sem, z1', z2', z3']
   exact ⟨rfl, HBZ.out⟩
 | ok r =>
   obtain ⟨x, j⟩ := r
   rw [hx] at d1
   have D1 := qh d1
   have K := qh (And.intro k1 (And.intro k2 k3))
   have HB0 := qh hb0
   clear d1 k1 k2 k3 hb0
   ((with_reducible refine D1.out.mono ?_); rintro e wv ⟨b, rfl, hp, hg, hr⟩)
   have g1 := K.out.1.grown hg (by intro e; injection e with e; omega)
   have g2 := K.out.2.1.grown hg (by intro e; injection e with e; omega)
   have g3 := K.out.2.2.grown hg (by intro e; injection e with e; omega)
   have m1 := g1.cell 0
   have m2 := g2.cell 0
   have m3 := g3.cell 0
   have f1 := g1.frozen 0
   have f2 := g2.frozen 0
   have f3 := g3.frozen 0
   obtain ⟨a1, a2, a3⟩ := hp.at_
   have HR := qh hr
   have HP := qh hp
   have HG := qh hg
   have G := qh (And.intro g1 (And.intro g2 g3))
   simp only [List.getElem?_toArray, List.getElem?_cons_zero] at m1 m2 m3
   clear hp hg hr g1 g2 g3
   go_wp2
   have hq1 := G.out.1.set_ 0 (.pointer (some ⟨b, 0, none⟩))
   have hq2 := G.out.2.1.far (p := ⟨w.heap.size, 0, none⟩) (show w.heap.size + 1 ≠ w.heap.size by omega) (.pointer (some ⟨b, 0, none⟩))
   have hq3 := G.out.2.2.far (p := ⟨w.heap.size, 0, none⟩) (show w.heap.size + 1 + 1 ≠ w.heap.size by omega) (.pointer (some ⟨b, 0, none⟩))
   have hqr := HP.out.row.far (p := ⟨w.heap.size, 0, none⟩) (show w.heap.size + 1 + 1 + 1 ≠ w.heap.size by omega) (.pointer (some ⟨b, 0, none⟩))
   have hbv : Below w.heap.size w (wv.setCell ⟨w.heap.size, 0, none⟩ (.pointer (some ⟨b, 0, none⟩))) := (Lx.below_grown HB0.out HG.out (fun k e => by injection e with e; omega) HB0.out.size).setCell (Nat.le_refl _) _
   have hr2 : RepS (fun y => w.heap.size + 4 ≤ y) (wv.setCell ⟨w.heap.size, 0, none⟩ (.pointer (some ⟨b, 0, none⟩))) (.node x.1 x.2 .no) [.pointer (some ⟨b, 0, none⟩)] := (HR.out.more (S' := fun y => w.heap.size + 4 ≤ y) fun y hy _ => by omega).keep (by rw [World.size_setCell]; exact Nat.le_refl _) (fun y hy _ => Below.heap_setCell _ _ _ _ (show y ≠ w.heap.size by omega)) (fun y h _ => h)
   have m1 := hq1.cell 0
   have m2 := hq2.cell 0
   have m3 := hq3.cell 0
   have f1 := hq1.frozen 0
   have f2 := hq2.frozen 0
   have f3 := hq3.frozen 0
   have mr := hqr.cell 1
   have Q := qh (And.intro hq1 (And.intro hq2 (And.intro hq3 (And.intro hbv hr2))))
   clear hq1 hq2 hq3 hqr hbv hr2 a1 a2 a3 G HP HG HR
   generalize wv.setCell ⟨w.heap.size, 0, none⟩ (.pointer (some ⟨b, 0, none⟩)) = wz at *
   simp only [List.getElem?_toArray, List.getElem?_cons_zero, List.getElem?_cons_succ] at m1 m2 m3 mr
   go_region
   all_goals
    go_wp2
    obtain ⟨hq1, hq2, hq3, hbv, hr2⟩ := Q.out
    refine leaves_cons (f := 140) (args := #[.pointer (some ⟨w.heap.size, 0, none⟩), .pointer (some ⟨w.heap.size + 1, 0, none⟩), .pointer (some ⟨w.heap.size + 1 + 1, 0, none⟩)]) (by simp) (by simp [go_sem]) ?_
    refine (catch_idle ⟨w.heap.size, 0, none⟩ ⟨w.heap.size + 1, 0, none⟩ ⟨w.heap.size + 1 + 1, 0, none⟩ _).mono ?_
    rintro e u' w'' ⟨rfl, rfl, rfl⟩
    have z1 := ((((hq1.set_ 0 (.pointer (some ⟨b, 0, none⟩))).far (p := ⟨w.heap.size + 1, 0, none⟩) (show w.heap.size ≠ w.heap.size + 1 by omega) (.int .i64 j)).far (p := ⟨w.heap.size + 1 + 1, 0, none⟩) (show w.heap.size ≠ w.heap.size + 1 + 1 by omega) (.int .i64 0)).drewN 1).cell 0
    have z2 := ((((hq2.far (p := ⟨w.heap.size, 0, none⟩) (show w.heap.size + 1 ≠ w.heap.size by omega) (.pointer (some ⟨b, 0, none⟩))).set_ 0 (.int .i64 j)).far (p := ⟨w.heap.size + 1 + 1, 0, none⟩) (show w.heap.size + 1 ≠ w.heap.size + 1 + 1 by omega) (.int .i64 0)).drewN 1).cell 0
    have z3 := ((((hq3.far (p := ⟨w.heap.size, 0, none⟩) (show w.heap.size + 1 + 1 ≠ w.heap.size by omega) (.pointer (some ⟨b, 0, none⟩))).far (p := ⟨w.heap.size + 1, 0, none⟩) (show w.heap.size + 1 + 1 ≠ w.heap.size + 1 by omega) (.int .i64 j)).set_ 0 (.int .i64 0)).drewN 1).cell 0
    have HBZ := qh (Lx.below_drewN (((hbv.setCell (p := ⟨w.heap.size, 0, none⟩) (Nat.le_refl _) (.pointer (some ⟨b, 0, none⟩))).setCell (p := ⟨w.heap.size + 1, 0, none⟩) (Nat.le_succ _) (.int .i64 j)).setCell (p := ⟨w.heap.size + 1 + 1, 0, none⟩) (show w.heap.size ≤ w.heap.size + 1 + 1 by omega) (.int .i64 0)) 1)
    have HRZ : Hid (RepS (fun y => w.heap.size ≤ y) ((((wz.setCell ⟨w.heap.size, 0, none⟩ (.pointer (some ⟨b, 0, none⟩))).setCell ⟨w.heap.size + 1, 0, none⟩ (.int .i64 j)).setCell ⟨w.heap.size + 1 + 1, 0, none⟩ (.int .i64 0)).drewN 1) (.node x.1 x.2 .no) [.pointer (some ⟨b, 0, none⟩)]) := qh (rep_set3 hr2 _ _ _ _ _ _ (fun y hy => by simp only; omega) (fun y hy => by simp only; omega) (fun y hy => by simp only; omega) (fun y hy => by omega))
    clear hq1 hq2 hq3 hbv hr2 Q m1 m2 m3 mr f1 f2 f3
    change Leaves _ _ _ _ _ _ ((((wz.setCell ⟨w.heap.size, 0, none⟩ (.pointer (some ⟨b, 0, none⟩))).setCell ⟨w.heap.size + 1, 0, none⟩ (.int .i64 j)).setCell ⟨w.heap.size + 1 + 1, 0, none⟩ (.int .i64 0)).drewN 1)
    generalize (((wz.setCell ⟨w.heap.size, 0, none⟩ (.pointer (some ⟨b, 0, none⟩))).setCell ⟨w.heap.size + 1, 0, none⟩ (.int .i64 j)).setCell ⟨w.heap.size + 1 + 1, 0, none⟩ (.int .i64 0)).drewN 1 = z at *
    have z1' : z.cell? ⟨w.heap.size, 0, none⟩ = some (.pointer (some ⟨b, 0, none⟩)) := by simpa using z1
    have z2' : z.cell? ⟨w.heap.size + 1, 0, none⟩ = some (.int .i64 j) := by simpa using z2
    have z3' : z.cell? ⟨w.heap.size + 1 + 1, 0, none⟩ = some (.int .i64 0) := by simpa using z3
    clear z1 z2 z3
    rw [hx]
    simp [Leaves, settle, results, Tryz.results119, go_sem, z1', z2', z3']
    exact ⟨b, rfl, HRZ.out, HBZ.out⟩
set_option maxRecDepth 100000 in set_option maxHeartbeats 6400000 in
theorem parse_labels (sp : List PT → Nat → Except Nat (T1 × Nat)) (hF : ∀ (w0 : World) (br c : Nat) (A : Option Addr) (L : List PT), Toks w0 br A L → FnOK 155 (sp L) 0 w0 br A c L)
 (A : Option Addr) (c : Nat) (L : List PT) (i : Nat) (hi : i ≤ 60000) (hL : L.length ≤ 20000) (w : World) (hA : Reads w w.heap.size 5 A L.length (flatP L)) (hlow : ∀ ad, A = some ad → ad.block < w.heap.size) :
 Calls Tryz.prog 119 #[.slice A L.length c, .int .i64 i, .func (.func 155) #[] #[]] w (ParR w (sp L i)) := by
 have hmf : ∀ (fn : Fn) (first cap : Array Value) (w : World), (Instr.makeFunc fn first cap).run Tryz.prog w = .ok (.func fn first cap) w := fun _ _ _ _ => rfl
 have x0 : (0 : Int) ≤ (i : Int) := by omega
 have x1 : ¬ (i : Int) < 0 := by omega
 have HF := qh hF
 have HA := qh hA
 clear hF hA
 go_enter_defers Tryz.func119, Tryz.ntmps119
 go_wp2_with fail
 obtain ⟨hb0, hs0, k1, k2, k3, kr⟩ := par_world w A c L i
 generalize ((((w.alloc (.cells #[.pointer none] 31)).alloc (.cells #[.int .i64 0] 3)).alloc (.cells #[.int .i64 0] 32)).alloc (.cells #[.slice A L.length c, .int .i64 i] 153)) = w0 at *
 have HT : Hid (Toks w0 (w.heap.size + 1 + 1 + 1) A L) := qh ⟨(HA.out.below hb0).more hb0.size, by omega, fun ad e => by have := hlow ad e; omega, hL⟩
 have H := qh (PG.start (⟨kr, ⟨rfl, rfl, rfl, Nat.le_refl _, fun _ _ _ => rfl⟩⟩ : PInv w0 w0 (w.heap.size + 1 + 1 + 1) A c L i))
 have d1 := HF.out w0 _ c A L HT.out i (Nat.zero_le _) hi w0 H.out.1
 have hbz : w.heap.size + 1 + 1 + 1 < w0.heap.size := by omega
 clear kr
 cases hx : sp L i with
 | error k =>
   rw [hx] at d1
   have D1 := qh d1
   have K := qh (And.intro k1 (And.intro k2 k3))
   have HB0 := qh hb0
   clear d1 k1 k2 k3 hb0
   ((with_reducible refine D1.out.mono ?_); rintro e wv ⟨rfl, hg⟩)
   have g1 := K.out.1.grown hg (by intro e; injection e with e; omega)
   have g2 := K.out.2.1.grown hg (by intro e; injection e with e; omega)
   have g3 := K.out.2.2.grown hg (by intro e; injection e with e; omega)
   refine leaves_cons (f := 140) (args := #[.pointer (some ⟨w.heap.size, 0, none⟩), .pointer (some ⟨w.heap.size + 1, 0, none⟩), .pointer (some ⟨w.heap.size + 1 + 1, 0, none⟩)]) (by simp) (by simp [go_sem]) ?_
   refine (catch_bad w.heap.size (w.heap.size + 1) (w.heap.size + 1 + 1) k wv (g1.cell 0) (g2.cell 0) (g3.cell 0) (g1.frozen 0) (g2.frozen 0) (g3.frozen 0) (by omega) (by omega)).mono ?_
   rintro e u' w'' ⟨rfl, rfl, rfl⟩
   have z1 := ((((g1.set_ 0 (.pointer none)).far (p := ⟨w.heap.size + 1, 0, none⟩) (show w.heap.size ≠ w.heap.size + 1 by omega) (.int .i64 k)).far (p := ⟨w.heap.size + 1 + 1, 0, none⟩) (show w.heap.size ≠ w.heap.size + 1 + 1 by omega) (.int .i64 60)).drewN 1).cell 0
   have z2 := ((((g2.far (p := ⟨w.heap.size, 0, none⟩) (show w.heap.size + 1 ≠ w.heap.size by omega) (.pointer none)).set_ 0 (.int .i64 k)).far (p := ⟨w.heap.size + 1 + 1, 0, none⟩) (show w.heap.size + 1 ≠ w.heap.size + 1 + 1 by omega) (.int .i64 60)).drewN 1).cell 0
   have z3 := ((((g3.far (p := ⟨w.heap.size, 0, none⟩) (show w.heap.size + 1 + 1 ≠ w.heap.size by omega) (.pointer none)).far (p := ⟨w.heap.size + 1, 0, none⟩) (show w.heap.size + 1 + 1 ≠ w.heap.size + 1 by omega) (.int .i64 k)).set_ 0 (.int .i64 60)).drewN 1).cell 0
   have hbv : Below w.heap.size w wv := Lx.below_grown HB0.out hg (fun k e => by injection e with e; omega) HB0.out.size
   have hbz2 : Below w.heap.size w ((((wv.setCell ⟨w.heap.size, 0, none⟩ (.pointer none)).setCell ⟨w.heap.size + 1, 0, none⟩ (.int .i64 k)).setCell ⟨w.heap.size + 1 + 1, 0, none⟩ (.int .i64 60)).drewN 1) := Lx.below_drewN (((hbv.setCell (Nat.le_refl _) _).setCell (Nat.le_succ _) _).setCell (show w.heap.size ≤ w.heap.size + 1 + 1 by omega) _) 1
   have HBZ := qh hbz2
   clear g1 g2 g3 hg hbv hbz2
   change Leaves _ _ _ _ _ _ ((((wv.setCell ⟨w.heap.size, 0, none⟩ (.pointer none)).setCell ⟨w.heap.size + 1, 0, none⟩ (.int .i64 k)).setCell ⟨w.heap.size + 1 + 1, 0, none⟩ (.int .i64 60)).drewN 1)
   generalize (((wv.setCell ⟨w.heap.size, 0, none⟩ (.pointer none)).setCell ⟨w.heap.size + 1, 0, none⟩ (.int .i64 k)).setCell ⟨w.heap.size + 1 + 1, 0, none⟩ (.int .i64 60)).drewN 1 = z at *
   have z1' : z.cell? ⟨w.heap.size, 0, none⟩ = some (.pointer none) := by simpa using z1
   have z2' : z.cell? ⟨w.heap.size + 1, 0, none⟩ = some (.int .i64 k) := by simpa using z2
   have z3' : z.cell? ⟨w.heap.size + 1 + 1, 0, none⟩ = some (.int .i64 60) := by simpa using z3
   clear z1 z2 z3
   simp [Leaves, settle, results, Tryz.results119, go_sem, z1', z2', z3']
   exact ⟨rfl, HBZ.out⟩
 | ok r =>
   obtain ⟨x, j⟩ := r
   rw [hx] at d1
   have D1 := qh d1
   have K := qh (And.intro k1 (And.intro k2 k3))
   have HB0 := qh hb0
   clear d1 k1 k2 k3 hb0
   ((with_reducible refine D1.out.mono ?_); rintro e wv ⟨b, rfl, hp, hg, hr⟩)
   have g1 := K.out.1.grown hg (by intro e; injection e with e; omega)
   have g2 := K.out.2.1.grown hg (by intro e; injection e with e; omega)
   have g3 := K.out.2.2.grown hg (by intro e; injection e with e; omega)
   have m1 := g1.cell 0
   have m2 := g2.cell 0
   have m3 := g3.cell 0
   have f1 := g1.frozen 0
   have f2 := g2.frozen 0
   have f3 := g3.frozen 0
   obtain ⟨a1, a2, a3⟩ := hp.at_
   have HR := qh hr
   have HP := qh hp
   have HG := qh hg
   have G := qh (And.intro g1 (And.intro g2 g3))
   simp only [List.getElem?_toArray, List.getElem?_cons_zero] at m1 m2 m3
   clear hp hg hr g1 g2 g3
   go_wp2
   have hq1 := G.out.1.set_ 0 (.pointer (some ⟨b, 0, none⟩))
   have hq2 := G.out.2.1.far (p := ⟨w.heap.size, 0, none⟩) (show w.heap.size + 1 ≠ w.heap.size by omega) (.pointer (some ⟨b, 0, none⟩))
   have hq3 := G.out.2.2.far (p := ⟨w.heap.size, 0, none⟩) (show w.heap.size + 1 + 1 ≠ w.heap.size by omega) (.pointer (some ⟨b, 0, none⟩))
   have hqr := HP.out.row.far (p := ⟨w.heap.size, 0, none⟩) (show w.heap.size + 1 + 1 + 1 ≠ w.heap.size by omega) (.pointer (some ⟨b, 0, none⟩))
   have hbv : Below w.heap.size w (wv.setCell ⟨w.heap.size, 0, none⟩ (.pointer (some ⟨b, 0, none⟩))) := (Lx.below_grown HB0.out HG.out (fun k e => by injection e with e; omega) HB0.out.size).setCell (Nat.le_refl _) _
   have hr2 : RepS (fun y => w.heap.size + 4 ≤ y) (wv.setCell ⟨w.heap.size, 0, none⟩ (.pointer (some ⟨b, 0, none⟩))) (.node x.1 x.2 .no) [.pointer (some ⟨b, 0, none⟩)] := (HR.out.more (S' := fun y => w.heap.size + 4 ≤ y) fun y hy _ => by omega).keep (by rw [World.size_setCell]; exact Nat.le_refl _) (fun y hy _ => Below.heap_setCell _ _ _ _ (show y ≠ w.heap.size by omega)) (fun y h _ => h)
   have m1 := hq1.cell 0
   have m2 := hq2.cell 0
   have m3 := hq3.cell 0
   have f1 := hq1.frozen 0
   have f2 := hq2.frozen 0
   have f3 := hq3.frozen 0
   have mr := hqr.cell 1
   have Q := qh (And.intro hq1 (And.intro hq2 (And.intro hq3 (And.intro hbv hr2))))
   clear hq1 hq2 hq3 hqr hbv hr2 a1 a2 a3 G HP HG HR
   generalize wv.setCell ⟨w.heap.size, 0, none⟩ (.pointer (some ⟨b, 0, none⟩)) = wz at *
   simp only [List.getElem?_toArray, List.getElem?_cons_zero, List.getElem?_cons_succ] at m1 m2 m3 mr
   go_region
   all_goals
    go_wp2
    obtain ⟨hq1, hq2, hq3, hbv, hr2⟩ := Q.out
    refine leaves_cons (f := 140) (args := #[.pointer (some ⟨w.heap.size, 0, none⟩), .pointer (some ⟨w.heap.size + 1, 0, none⟩), .pointer (some ⟨w.heap.size + 1 + 1, 0, none⟩)]) (by simp) (by simp [go_sem]) ?_
    refine (catch_idle ⟨w.heap.size, 0, none⟩ ⟨w.heap.size + 1, 0, none⟩ ⟨w.heap.size + 1 + 1, 0, none⟩ _).mono ?_
    rintro e u' w'' ⟨rfl, rfl, rfl⟩
    have z1 := ((((hq1.set_ 0 (.pointer (some ⟨b, 0, none⟩))).far (p := ⟨w.heap.size + 1, 0, none⟩) (show w.heap.size ≠ w.heap.size + 1 by omega) (.int .i64 j)).far (p := ⟨w.heap.size + 1 + 1, 0, none⟩) (show w.heap.size ≠ w.heap.size + 1 + 1 by omega) (.int .i64 0)).drewN 1).cell 0
    have z2 := ((((hq2.far (p := ⟨w.heap.size, 0, none⟩) (show w.heap.size + 1 ≠ w.heap.size by omega) (.pointer (some ⟨b, 0, none⟩))).set_ 0 (.int .i64 j)).far (p := ⟨w.heap.size + 1 + 1, 0, none⟩) (show w.heap.size + 1 ≠ w.heap.size + 1 + 1 by omega) (.int .i64 0)).drewN 1).cell 0
    have z3 := ((((hq3.far (p := ⟨w.heap.size, 0, none⟩) (show w.heap.size + 1 + 1 ≠ w.heap.size by omega) (.pointer (some ⟨b, 0, none⟩))).far (p := ⟨w.heap.size + 1, 0, none⟩) (show w.heap.size + 1 + 1 ≠ w.heap.size + 1 by omega) (.int .i64 j)).set_ 0 (.int .i64 0)).drewN 1).cell 0
    have HBZ := qh (Lx.below_drewN (((hbv.setCell (p := ⟨w.heap.size, 0, none⟩) (Nat.le_refl _) (.pointer (some ⟨b, 0, none⟩))).setCell (p := ⟨w.heap.size + 1, 0, none⟩) (Nat.le_succ _) (.int .i64 j)).setCell (p := ⟨w.heap.size + 1 + 1, 0, none⟩) (show w.heap.size ≤ w.heap.size + 1 + 1 by omega) (.int .i64 0)) 1)
    have HRZ : Hid (RepS (fun y => w.heap.size ≤ y) ((((wz.setCell ⟨w.heap.size, 0, none⟩ (.pointer (some ⟨b, 0, none⟩))).setCell ⟨w.heap.size + 1, 0, none⟩ (.int .i64 j)).setCell ⟨w.heap.size + 1 + 1, 0, none⟩ (.int .i64 0)).drewN 1) (.node x.1 x.2 .no) [.pointer (some ⟨b, 0, none⟩)]) := qh (rep_set3 hr2 _ _ _ _ _ _ (fun y hy => by simp only; omega) (fun y hy => by simp only; omega) (fun y hy => by simp only; omega) (fun y hy => by omega))
    clear hq1 hq2 hq3 hbv hr2 Q m1 m2 m3 mr f1 f2 f3
    change Leaves _ _ _ _ _ _ ((((wz.setCell ⟨w.heap.size, 0, none⟩ (.pointer (some ⟨b, 0, none⟩))).setCell ⟨w.heap.size + 1, 0, none⟩ (.int .i64 j)).setCell ⟨w.heap.size + 1 + 1, 0, none⟩ (.int .i64 0)).drewN 1)
    generalize (((wz.setCell ⟨w.heap.size, 0, none⟩ (.pointer (some ⟨b, 0, none⟩))).setCell ⟨w.heap.size + 1, 0, none⟩ (.int .i64 j)).setCell ⟨w.heap.size + 1 + 1, 0, none⟩ (.int .i64 0)).drewN 1 = z at *
    have z1' : z.cell? ⟨w.heap.size, 0, none⟩ = some (.pointer (some ⟨b, 0, none⟩)) := by simpa using z1
    have z2' : z.cell? ⟨w.heap.size + 1, 0, none⟩ = some (.int .i64 j) := by simpa using z2
    have z3' : z.cell? ⟨w.heap.size + 1 + 1, 0, none⟩ = some (.int .i64 0) := by simpa using z3
    clear z1 z2 z3
    rw [hx]
    simp [Leaves, settle, results, Tryz.results119, go_sem, z1', z2', z3']
    exact ⟨b, rfl, HRZ.out, HBZ.out⟩
end Go.Proofs.YtkemhmfdooghkaaGreatDoor.Ex
end
