/- Body of statements, all together; the deferred closure; Body. -/
import Derived.Test.YtecmjhohniipoaaU8
import Derived.Defers
import Derived.Recover
import Derived.Laws.Pointers
import Derived.RegionTactic
import Derived.Deep.RegionLaw
import Derived.Deep.AppendLies
import Derived.Deep.LoopGhost
set_option linter.unusedSimpArgs false
set_option linter.unusedVariables false
namespace Go.Proofs.Ytecmjhohniipoaa.St
open Go.RowKit
open Tr (Nd Fo RepS RepN Rep cellsN)
open Lx (Tk noTk Blk run_store_complexL TokAt)
open Fl
open Ex
attribute [local go_sem] run_store_complexL run_field1 run_field3

theorem body_any {g : Nat} {w0 : World} {br c : Nat} {A : Option Addr} {L : List PT} (ht : TkS w0 br A L) (hg : L.length < g) : ∀ (f lo : Nat), L.length < lo + f → ∀ i, lo ≤ i → i ≤ 60000 → ∀ w, PInv w0 w br A c L i → Calls Try.prog 17 #[.pointer (some ⟨br, 0, none⟩)] w (TreeR w.heap.size w0 w br A c L (bodyF g (f + 1) L i)) := by
  intro f
  induction f with
  | zero =>
    intro lo hlo i hi hi2 w hw
    exact bodyG_any (bd := bodyF g 0) ht hg (g2_bodyF g 0) (lo := lo) (fun j hj hl => by omega) i hi hi2 w hw
  | succ f ih =>
    intro lo hlo i hi hi2 w hw
    have hlen := ht.toks.len
    exact bodyG_any (bd := bodyF g (f + 1)) ht hg (g2_bodyF g (f + 1)) (lo := lo) (fun j hj hl w hw => ih (lo + 1) (by omega) j hj (by omega) w hw) i hi hi2 w hw
theorem catch_idle (p q r : Addr) (w : World) :
    CallsD Try.prog 16 #[.pointer (some p), .pointer (some q), .pointer (some r)] .returning w fun e u' w' => e = .returned (.tuple #[]) ∧ u' = .returning ∧ w' = w := by
  refine callsD_of_wpS Try.func16 rfl fun c₀ cs hu => ?_
  apply wpS_seq
  apply wpS_region
  simp [wpOpsS, go_sem, recoverD, hu, Try.ntmps16, Exit.thenS]
  apply wpS_seq
  apply wpS_region
  simp [wpOpsS, go_sem, Exit.thenS, Array.replicate]
  refine wpS_cond (t := false) (by simp [Act.eval, Array.replicate]) ?_
  simp only [Bool.false_eq_true, if_false]
  refine wpS_of_wp (wp_skip ?_)
  cases c₀
  simp_all [bodyPostS, results, Try.results16]
theorem run_bad (k : Int) (w : World) : (Instr.typeAssert (.iface 46 (.int .i64 k)) 20 46 false).run Try.prog w = .ok (.int .i64 k) w := by
  kernel_rfl
theorem catch_bad (b1 b2 b3 : Nat) (k : Nat) (w : World)
    (h1 : w.cell? ⟨b1, 0, none⟩ = some (.pointer none)) (h2 : w.cell? ⟨b2, 0, none⟩ = some (.int .i64 0)) (h3 : w.cell? ⟨b3, 0, none⟩ = some (.int .i64 0)) (f1 : w.frozen? ⟨b1, 0, none⟩ = false) (f2 : w.frozen? ⟨b2, 0, none⟩ = false) (f3 : w.frozen? ⟨b3, 0, none⟩ = false)
    (n12 : b1 < b2) (n23 : b2 < b3) :
    CallsD Try.prog 16 #[.pointer (some ⟨b1, 0, none⟩), .pointer (some ⟨b2, 0, none⟩), .pointer (some ⟨b3, 0, none⟩)] (.panicking [{ v := .iface 46 (.int .i64 k), recovered := false }]) w fun e u' w' =>
      e = .returned (.tuple #[]) ∧ u' = .panicking [{ v := .iface 46 (.int .i64 k), recovered := true }] ∧ w' = (((w.setCell ⟨b1, 0, none⟩ (.pointer none)).setCell ⟨b2, 0, none⟩ (.int .i64 k)).setCell ⟨b3, 0, none⟩ (.int .i64 60)).drew := by
  refine callsD_of_wpS Try.func16 rfl fun c₀ cs hu => ?_
  apply wpS_seq
  apply wpS_region
  simp [wpOpsS, go_sem, recoverD, hu, Try.ntmps16, Exit.thenS]
  apply wpS_seq
  apply wpS_region
  simp [wpOpsS, go_sem, Exit.thenS, Array.replicate]
  refine wpS_cond (t := true) (by simp [Act.eval, Array.replicate]) ?_
  simp only [if_true]
  refine wpS_of_wp ?_
  have hne12 : ¬ b1 = b2 := by omega
  have hne13 : ¬ b1 = b3 := by omega
  have hne23 : ¬ b2 = b3 := by omega
  have hne21 : ¬ b2 = b1 := by omega
  have hne31 : ¬ b3 = b1 := by omega
  have hne32 : ¬ b3 = b2 := by omega
  have hta := run_bad k
  go_region
  all_goals
    simp [bodyPostS, results, Try.results16]
theorem par_world (w : World) (A : Option Addr) (c : Nat) (L : List PT) (i : Nat) : Below w.heap.size w ((((w.alloc (.cells #[.pointer none] 26)).alloc (.cells #[.int .i64 0] 3)).alloc (.cells #[.int .i64 0] 27)).alloc (.cells #[.slice A L.length c, .int .i64 i] 49)) ∧ ((((w.alloc (.cells #[.pointer none] 26)).alloc (.cells #[.int .i64 0] 3)).alloc (.cells #[.int .i64 0] 27)).alloc (.cells #[.slice A L.length c, .int .i64 i] 49)).heap.size = w.heap.size + 4 ∧ Blk ((((w.alloc (.cells #[.pointer none] 26)).alloc (.cells #[.int .i64 0] 3)).alloc (.cells #[.int .i64 0] 27)).alloc (.cells #[.slice A L.length c, .int .i64 i] 49)) w.heap.size 26 #[.pointer none] ∧ Blk ((((w.alloc (.cells #[.pointer none] 26)).alloc (.cells #[.int .i64 0] 3)).alloc (.cells #[.int .i64 0] 27)).alloc (.cells #[.slice A L.length c, .int .i64 i] 49)) (w.heap.size + 1) 3 #[.int .i64 0] ∧ Blk ((((w.alloc (.cells #[.pointer none] 26)).alloc (.cells #[.int .i64 0] 3)).alloc (.cells #[.int .i64 0] 27)).alloc (.cells #[.slice A L.length c, .int .i64 i] 49)) (w.heap.size + 1 + 1) 27 #[.int .i64 0] ∧ Blk ((((w.alloc (.cells #[.pointer none] 26)).alloc (.cells #[.int .i64 0] 3)).alloc (.cells #[.int .i64 0] 27)).alloc (.cells #[.slice A L.length c, .int .i64 i] 49)) (w.heap.size + 1 + 1 + 1) 49 #[.slice A L.length c, .int .i64 i] := by
  have hn : ∀ (W : World) (o : Obj) (m : Nat), W.heap.size = m → (W.alloc o).heap[m]? = some o := fun W o m h => by rw [← h]; exact heap_alloc_new W o
  have ho : ∀ (W : World) (o o' : Obj) (m : Nat), W.heap[m]? = some o' → (W.alloc o).heap[m]? = some o' := fun W o o' m h => (Below.heap_alloc W o m (obj_lt h)).trans h
  have ha : ∀ {W : World} (h : Below w.heap.size w W) (o : Obj), Below w.heap.size w (W.alloc o) := fun h o => h.alloc h.size o
  refine ⟨ha (ha (ha (ha (Below.refl _ _) _) _) _) _, by simp [World.size_alloc], ?_, ?_, ?_, ?_⟩
  · exact ho _ _ _ _ (ho _ _ _ _ (ho _ _ _ _ (hn _ _ _ rfl)))
  · exact ho _ _ _ _ (ho _ _ _ _ (hn _ _ _ (by simp [World.size_alloc])))
  · exact ho _ _ _ _ (hn _ _ _ (by simp [World.size_alloc]))
  · exact hn _ _ _ (by simp [World.size_alloc])
set_option maxRecDepth 100000 in
set_option maxHeartbeats 6400000 in
theorem Body_any {w : World} {A : Option Addr} {L : List PT} (h : RowAt w A L) (c : Nat) {i : Nat} (hi : i ≤ 60000) {g : Nat} (hg : L.length < g) :
    Calls Try.prog 10 #[.slice A L.length c, .int .i64 i] w (ParR w (bodyF g (g + 1) L i)) := by
  have HF := Lib.hid (fun (w0 : World) (br c : Nat) (A : Option Addr) (L : List PT) (ht : TkS w0 br A L) (hg : L.length < g) (i : Nat) (hi : i ≤ 60000) (w : World) (hw : PInv w0 w br A c L i) => body_any ht hg g 0 (by omega) i (Nat.zero_le _) hi w hw)
  have hL := h.len
  have hA := h.reads
  have hlow := h.low
  clear h
  have hmf : ∀ (fn : Fn) (first cap : Array Value) (w : World), (Instr.makeFunc fn first cap).run Try.prog w = .ok (.func fn first cap) w := fun _ _ _ _ => rfl
  have x0 : (0 : Int) ≤ (i : Int) := by omega
  have x1 : ¬ (i : Int) < 0 := by omega
  have HA := Lib.hid hA
  clear hA
  go_enter_defers Try.func10, Try.ntmps10
  go_wp2_with fail
  obtain ⟨hb0, hs0, k1, k2, k3, kr⟩ := par_world w A c L i
  generalize ((((w.alloc (.cells #[.pointer none] 26)).alloc (.cells #[.int .i64 0] 3)).alloc (.cells #[.int .i64 0] 27)).alloc (.cells #[.slice A L.length c, .int .i64 i] 49)) = w0 at *
  have HT : Hid (TkS w0 (w.heap.size + 1 + 1 + 1) A L) := Lib.hid ⟨⟨(HA.out.below hb0).more hb0.size, by omega, fun ad e => by have := hlow ad e; omega, hL⟩, fun ad e => by have := hlow ad e; have := hb0.size; omega⟩
  have H := Lib.hid (PG.start (⟨kr, ⟨rfl, rfl, rfl, Nat.le_refl _, fun _ _ _ => rfl⟩⟩ : PInv w0 w0 (w.heap.size + 1 + 1 + 1) A c L i))
  have d1 := HF.out w0 _ c A L HT.out hg i hi w0 H.out.1
  have hbz : w.heap.size + 1 + 1 + 1 < w0.heap.size := by omega
  clear kr
  cases hx : bodyF g (g + 1) L i with
  | error k =>
    rw [hx] at d1
    have D1 := Lib.hid d1
    have K := Lib.hid (And.intro k1 (And.intro k2 k3))
    have HB0 := Lib.hid hb0
    clear d1 k1 k2 k3 hb0
    ((with_reducible refine D1.out.mono ?_); rintro e wv ⟨rfl, hg⟩)
    have g1 := K.out.1.grown hg (by intro e; injection e with e; omega)
    have g2 := K.out.2.1.grown hg (by intro e; injection e with e; omega)
    have g3 := K.out.2.2.grown hg (by intro e; injection e with e; omega)
    refine leaves_cons (f := 16) (args := #[.pointer (some ⟨w.heap.size, 0, none⟩), .pointer (some ⟨w.heap.size + 1, 0, none⟩), .pointer (some ⟨w.heap.size + 1 + 1, 0, none⟩)]) (by simp) (by simp [go_sem]) ?_
    refine (catch_bad w.heap.size (w.heap.size + 1) (w.heap.size + 1 + 1) k wv (g1.cell 0) (g2.cell 0) (g3.cell 0) (g1.frozen 0) (g2.frozen 0) (g3.frozen 0) (by omega) (by omega)).mono ?_
    rintro e u' w'' ⟨rfl, rfl, rfl⟩
    have z1 := ((((g1.set_ 0 (.pointer none)).far (p := ⟨w.heap.size + 1, 0, none⟩) (show w.heap.size ≠ w.heap.size + 1 by omega) (.int .i64 k)).far (p := ⟨w.heap.size + 1 + 1, 0, none⟩) (show w.heap.size ≠ w.heap.size + 1 + 1 by omega) (.int .i64 60)).drewN 1).cell 0
    have z2 := ((((g2.far (p := ⟨w.heap.size, 0, none⟩) (show w.heap.size + 1 ≠ w.heap.size by omega) (.pointer none)).set_ 0 (.int .i64 k)).far (p := ⟨w.heap.size + 1 + 1, 0, none⟩) (show w.heap.size + 1 ≠ w.heap.size + 1 + 1 by omega) (.int .i64 60)).drewN 1).cell 0
    have z3 := ((((g3.far (p := ⟨w.heap.size, 0, none⟩) (show w.heap.size + 1 + 1 ≠ w.heap.size by omega) (.pointer none)).far (p := ⟨w.heap.size + 1, 0, none⟩) (show w.heap.size + 1 + 1 ≠ w.heap.size + 1 by omega) (.int .i64 k)).set_ 0 (.int .i64 60)).drewN 1).cell 0
    have hbv : Below w.heap.size w wv := Lx.below_grown HB0.out hg (fun k e => by injection e with e; omega) HB0.out.size
    have hbz2 : Below w.heap.size w ((((wv.setCell ⟨w.heap.size, 0, none⟩ (.pointer none)).setCell ⟨w.heap.size + 1, 0, none⟩ (.int .i64 k)).setCell ⟨w.heap.size + 1 + 1, 0, none⟩ (.int .i64 60)).drewN 1) := Lx.below_drewN (((hbv.setCell (Nat.le_refl _) _).setCell (Nat.le_succ _) _).setCell (show w.heap.size ≤ w.heap.size + 1 + 1 by omega) _) 1
    have HBZ := Lib.hid hbz2
    clear g1 g2 g3 hg hbv hbz2
    change Leaves _ _ _ _ _ _ ((((wv.setCell ⟨w.heap.size, 0, none⟩ (.pointer none)).setCell ⟨w.heap.size + 1, 0, none⟩ (.int .i64 k)).setCell ⟨w.heap.size + 1 + 1, 0, none⟩ (.int .i64 60)).drewN 1)
    generalize (((wv.setCell ⟨w.heap.size, 0, none⟩ (.pointer none)).setCell ⟨w.heap.size + 1, 0, none⟩ (.int .i64 k)).setCell ⟨w.heap.size + 1 + 1, 0, none⟩ (.int .i64 60)).drewN 1 = z at *
    have z1' : z.cell? ⟨w.heap.size, 0, none⟩ = some (.pointer none) := by simpa using z1
    have z2' : z.cell? ⟨w.heap.size + 1, 0, none⟩ = some (.int .i64 k) := by simpa using z2
    have z3' : z.cell? ⟨w.heap.size + 1 + 1, 0, none⟩ = some (.int .i64 60) := by simpa using z3
    clear z1 z2 z3
    simp [Leaves, settle, results, Try.results10, go_sem, z1', z2', z3']
    exact ⟨rfl, HBZ.out⟩
  | ok r =>
    obtain ⟨x, j⟩ := r
    rw [hx] at d1
    have D1 := Lib.hid d1
    have K := Lib.hid (And.intro k1 (And.intro k2 k3))
    have HB0 := Lib.hid hb0
    clear d1 k1 k2 k3 hb0
    ((with_reducible refine D1.out.mono ?_); rintro e wv ⟨b, rfl, hp, hg, hr⟩)
    have g1 := K.out.1.grown hg (by intro e; injection e with e; omega)
    have g2 := K.out.2.1.grown hg (by intro e; injection e with e; omega)
    have g3 := K.out.2.2.grown hg (by intro e; injection e with e; omega)
    have m1 := g1.cell 0
    have m2 := g2.cell 0
    have m3 := g3.cell 0
    have f1 := g1.frozen 0
    have f2 := g2.frozen 0
    have f3 := g3.frozen 0
    obtain ⟨a1, a2, a3⟩ := hp.at_
    have HR := Lib.hid hr
    have HP := Lib.hid hp
    have HG := Lib.hid hg
    have G := Lib.hid (And.intro g1 (And.intro g2 g3))
    simp only [List.getElem?_toArray, List.getElem?_cons_zero] at m1 m2 m3
    clear hp hg hr g1 g2 g3
    go_wp2
    have hq1 := G.out.1.set_ 0 (.pointer (some ⟨b, 0, none⟩))
    have hq2 := G.out.2.1.far (p := ⟨w.heap.size, 0, none⟩) (show w.heap.size + 1 ≠ w.heap.size by omega) (.pointer (some ⟨b, 0, none⟩))
    have hq3 := G.out.2.2.far (p := ⟨w.heap.size, 0, none⟩) (show w.heap.size + 1 + 1 ≠ w.heap.size by omega) (.pointer (some ⟨b, 0, none⟩))
    have hqr := HP.out.row.far (p := ⟨w.heap.size, 0, none⟩) (show w.heap.size + 1 + 1 + 1 ≠ w.heap.size by omega) (.pointer (some ⟨b, 0, none⟩))
    have hbv : Below w.heap.size w (wv.setCell ⟨w.heap.size, 0, none⟩ (.pointer (some ⟨b, 0, none⟩))) := (Lx.below_grown HB0.out HG.out (fun k e => by injection e with e; omega) HB0.out.size).setCell (Nat.le_refl _) _
    have hr2 : RepS (fun y => w.heap.size + 4 ≤ y) (wv.setCell ⟨w.heap.size, 0, none⟩ (.pointer (some ⟨b, 0, none⟩))) (.node x.1 x.2 .no) [.pointer (some ⟨b, 0, none⟩)] := (HR.out.more (S' := fun y => w.heap.size + 4 ≤ y) fun y hy _ => by omega).keep (by rw [World.size_setCell]; exact Nat.le_refl _) (fun y hy _ => Below.heap_setCell _ _ _ _ (show y ≠ w.heap.size by omega)) (fun y h _ => h)
    have m1 := hq1.cell 0
    have m2 := hq2.cell 0
    have m3 := hq3.cell 0
    have f1 := hq1.frozen 0
    have f2 := hq2.frozen 0
    have f3 := hq3.frozen 0
    have mr := hqr.cell 1
    have Q := Lib.hid (And.intro hq1 (And.intro hq2 (And.intro hq3 (And.intro hbv hr2))))
    clear hq1 hq2 hq3 hqr hbv hr2 a1 a2 a3 G HP HG HR
    generalize wv.setCell ⟨w.heap.size, 0, none⟩ (.pointer (some ⟨b, 0, none⟩)) = wz at *
    simp only [List.getElem?_toArray, List.getElem?_cons_zero, List.getElem?_cons_succ] at m1 m2 m3 mr
    go_region
    all_goals
      go_wp2
      obtain ⟨hq1, hq2, hq3, hbv, hr2⟩ := Q.out
      refine leaves_cons (f := 16) (args := #[.pointer (some ⟨w.heap.size, 0, none⟩), .pointer (some ⟨w.heap.size + 1, 0, none⟩), .pointer (some ⟨w.heap.size + 1 + 1, 0, none⟩)]) (by simp) (by simp [go_sem]) ?_
      refine (catch_idle ⟨w.heap.size, 0, none⟩ ⟨w.heap.size + 1, 0, none⟩ ⟨w.heap.size + 1 + 1, 0, none⟩ _).mono ?_
      rintro e u' w'' ⟨rfl, rfl, rfl⟩
      have z1 := ((((hq1.set_ 0 (.pointer (some ⟨b, 0, none⟩))).far (p := ⟨w.heap.size + 1, 0, none⟩) (show w.heap.size ≠ w.heap.size + 1 by omega) (.int .i64 j)).far (p := ⟨w.heap.size + 1 + 1, 0, none⟩) (show w.heap.size ≠ w.heap.size + 1 + 1 by omega) (.int .i64 0)).drewN 1).cell 0
      have z2 := ((((hq2.far (p := ⟨w.heap.size, 0, none⟩) (show w.heap.size + 1 ≠ w.heap.size by omega) (.pointer (some ⟨b, 0, none⟩))).set_ 0 (.int .i64 j)).far (p := ⟨w.heap.size + 1 + 1, 0, none⟩) (show w.heap.size + 1 ≠ w.heap.size + 1 + 1 by omega) (.int .i64 0)).drewN 1).cell 0
      have z3 := ((((hq3.far (p := ⟨w.heap.size, 0, none⟩) (show w.heap.size + 1 + 1 ≠ w.heap.size by omega) (.pointer (some ⟨b, 0, none⟩))).far (p := ⟨w.heap.size + 1, 0, none⟩) (show w.heap.size + 1 + 1 ≠ w.heap.size + 1 by omega) (.int .i64 j)).set_ 0 (.int .i64 0)).drewN 1).cell 0
      have HBZ := Lib.hid (Lx.below_drewN (((hbv.setCell (p := ⟨w.heap.size, 0, none⟩) (Nat.le_refl _) (.pointer (some ⟨b, 0, none⟩))).setCell (p := ⟨w.heap.size + 1, 0, none⟩) (Nat.le_succ _) (.int .i64 j)).setCell (p := ⟨w.heap.size + 1 + 1, 0, none⟩) (show w.heap.size ≤ w.heap.size + 1 + 1 by omega) (.int .i64 0)) 1)
      have HRZ : Hid (RepS (fun y => w.heap.size ≤ y) ((((wz.setCell ⟨w.heap.size, 0, none⟩ (.pointer (some ⟨b, 0, none⟩))).setCell ⟨w.heap.size + 1, 0, none⟩ (.int .i64 j)).setCell ⟨w.heap.size + 1 + 1, 0, none⟩ (.int .i64 0)).drewN 1) (.node x.1 x.2 .no) [.pointer (some ⟨b, 0, none⟩)]) := Lib.hid (rep_set3 hr2 _ _ _ _ _ _ (fun y hy => by simp only; omega) (fun y hy => by simp only; omega) (fun y hy => by simp only; omega) (fun y hy => by omega))
      clear hq1 hq2 hq3 hbv hr2 Q m1 m2 m3 mr f1 f2 f3
      change Leaves _ _ _ _ _ _ ((((wz.setCell ⟨w.heap.size, 0, none⟩ (.pointer (some ⟨b, 0, none⟩))).setCell ⟨w.heap.size + 1, 0, none⟩ (.int .i64 j)).setCell ⟨w.heap.size + 1 + 1, 0, none⟩ (.int .i64 0)).drewN 1)
      generalize (((wz.setCell ⟨w.heap.size, 0, none⟩ (.pointer (some ⟨b, 0, none⟩))).setCell ⟨w.heap.size + 1, 0, none⟩ (.int .i64 j)).setCell ⟨w.heap.size + 1 + 1, 0, none⟩ (.int .i64 0)).drewN 1 = z at *
      have z1' : z.cell? ⟨w.heap.size, 0, none⟩ = some (.pointer (some ⟨b, 0, none⟩)) := by simpa using z1
      have z2' : z.cell? ⟨w.heap.size + 1, 0, none⟩ = some (.int .i64 j) := by simpa using z2
      have z3' : z.cell? ⟨w.heap.size + 1 + 1, 0, none⟩ = some (.int .i64 0) := by simpa using z3
      clear z1 z2 z3
      rw [hx]
      simp [Leaves, settle, results, Try.results10, go_sem, z1', z2', z3']
      exact ⟨b, rfl, HRZ.out, HBZ.out⟩
set_option maxRecDepth 100000 in
set_option maxHeartbeats 3200000 in
theorem Body_neg (A : Option Addr) (m c : Nat) (i : Int) (hi : i < 0) (w : World) :
    Calls Try.prog 10 #[.slice A m c, .int .i64 i] w (ParR w (.error 0)) := by
  go_enter_defers Try.func10, Try.ntmps10
  go_wp2
  simp [bodyPostD, Leaves, settle, results, Try.results10, go_sem]
  exact ⟨rfl, (((Below.refl _ _).alloc (Nat.le_refl _) _).alloc (by simp [World.size_alloc]) _).alloc (by simp [World.size_alloc]; omega) _⟩
end Go.Proofs.Ytecmjhohniipoaa.St
