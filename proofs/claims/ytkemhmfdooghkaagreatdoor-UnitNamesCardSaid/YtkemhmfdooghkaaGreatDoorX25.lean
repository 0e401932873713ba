import Derived.Test.YtkemhmfdooghkaaGreatDoorX24
import Derived.Test.YtkemhmfdooghkaaGreatDoorX21
set_option linter.unusedSimpArgs false
set_option linter.unusedVariables false
set_option maxRecDepth 100000
set_option maxHeartbeats 6400000
namespace Go.Proofs.YtkemhmfdooghkaaGreatDoor
namespace De
open Go.RowKit
open Tr (Nd Fo RepS RepN Rep cellsN)
open Lx (Tk noTk Blk run_store_complexL TokAt)
open Fl
open Ex
open St (TkS g2_max g2_expr g2_labels Good2 isNm KG KN new_kg new_0 kid_facts one_ptr bind_ok bind_err need_y need_n tok_y tok_n ret_ add_block sSem sCol sEnd sOf sBar sElse sCase sTo armOut isWd6)
attribute [local go_sem] run_store_complexL run_field0 run_field1 run_field3
theorem par_world (w : World) (A : Option Addr) (c : Nat) (L : List PT) (i : Nat) : Below w.heap.size w (((w.alloc (.cells #[.int .i64 0] 3)).alloc (.cells #[.int .i64 0] 32)).alloc (.cells #[.slice A L.length c, .int .i64 i] 120)) ∧ (((w.alloc (.cells #[.int .i64 0] 3)).alloc (.cells #[.int .i64 0] 32)).alloc (.cells #[.slice A L.length c, .int .i64 i] 120)).heap.size = w.heap.size + 3 ∧ Blk (((w.alloc (.cells #[.int .i64 0] 3)).alloc (.cells #[.int .i64 0] 32)).alloc (.cells #[.slice A L.length c, .int .i64 i] 120)) w.heap.size 3 #[.int .i64 0] ∧ Blk (((w.alloc (.cells #[.int .i64 0] 3)).alloc (.cells #[.int .i64 0] 32)).alloc (.cells #[.slice A L.length c, .int .i64 i] 120)) (w.heap.size + 1) 32 #[.int .i64 0] ∧ Blk (((w.alloc (.cells #[.int .i64 0] 3)).alloc (.cells #[.int .i64 0] 32)).alloc (.cells #[.slice A L.length c, .int .i64 i] 120)) (w.heap.size + 1 + 1) 120 #[.slice A L.length c, .int .i64 i] := by
 have hn : ∀ (W : World) (o : Obj) (m : Nat), W.heap.size = m → (W.alloc o).heap[m]? = some o := fun W o m h => by rw [← h]; exact heap_alloc_new W o
 have ho : ∀ (W : World) (o o' : Obj) (m : Nat), W.heap[m]? = some o' → (W.alloc o).heap[m]? = some o' := fun W o o' m h => (Below.heap_alloc W o m (obj_lt h)).trans h
 have ha : ∀ {W : World} (h : Below w.heap.size w W) (o : Obj), Below w.heap.size w (W.alloc o) := fun h o => h.alloc h.size o
 refine ⟨ha (ha (ha (Below.refl _ _) _) _) _, by simp [World.size_alloc], ?_, ?_, ?_⟩
 ·exact ho _ _ _ _ (ho _ _ _ _ (hn _ _ _ rfl))
 ·exact ho _ _ _ _ (hn _ _ _ (by simp [World.size_alloc]))
 ·exact hn _ _ _ (by simp [World.size_alloc])
theorem parse_any {w : World} {A : Option Addr} {L : List PT} (h : RowAt w A L) (c : Nat) {i : Nat} (hi : i ≤ 60000) {b1 b2 : Nat} (k1 : Blk w b1 108 #[.func (.func 59) #[] #[]]) (k2 : Blk w b2 31 #[.pointer none]) {r : Except Nat (T1 × Nat)}
 (HF0 : ∀ w0 br, TkS w0 br A L → ∀ wx, PInv w0 wx br A c L i → Calls Tryz.prog 59 #[.pointer (some ⟨br, 0, none⟩)] wx (TreeR wx.heap.size w0 wx br A c L r)) :
 Calls Tryz.prog 60 #[.slice A L.length c, .int .i64 i, .func (.func 74) #[] #[.pointer (some ⟨b1, 0, none⟩), .pointer (some ⟨b2, 0, none⟩)]] w (ParseR w b2 r) := by
 have HF := qh HF0
 have hL := h.len
 have hA := h.reads
 have hlow := h.low
 have l1 := k1.lt
 have l2 := k2.lt
 clear h HF0
 have hmf : ∀ (fn : Fn) (first cap : Array Value) (w : World), (Instr.makeFunc fn first cap).run Tryz.prog w = .ok (.func fn first cap) w := fun _ _ _ _ => rfl
 have x0 : (0 : Int) ≤ (i : Int) := by omega
 have x1 : ¬ (i : Int) < 0 := by omega
 have HA := qh hA
 have K0 := qh (And.intro k1 k2)
 clear hA k1 k2
 go_enter_defers Tryz.func60, Tryz.ntmps60
 go_wp2_with fail
 obtain ⟨hb0, hs0, e1, e2, kr⟩ := par_world w A c L i
 generalize (((w.alloc (.cells #[.int .i64 0] 3)).alloc (.cells #[.int .i64 0] 32)).alloc (.cells #[.slice A L.length c, .int .i64 i] 120)) = w0 at *
 have HT : Hid (TkS w0 (w.heap.size + 1 + 1) A L) := qh ⟨⟨(HA.out.below hb0).more hb0.size, by omega, fun ad e => by have := hlow ad e; omega, hL⟩, fun ad e => by have := hlow ad e; have := hb0.size; omega⟩
 have H := qh (PG.start (⟨kr, ⟨rfl, rfl, rfl, Nat.le_refl _, fun _ _ _ => rfl⟩⟩ : PInv w0 w0 (w.heap.size + 1 + 1) A c L i))
 have g1 : Blk w0 b1 108 #[.func (.func 59) #[] #[]] := (hb0.block b1 l1).trans K0.out.1
 have g2 : Blk w0 b2 31 #[.pointer none] := (hb0.block b2 l2).trans K0.out.2
 have d1 := one1_any (c := c) (HF.out w0 _ HT.out w0 H.out.1) (g1.cell 0) (g2.cell 0) (g2.frozen 0) (show b2 ≠ w.heap.size + 1 + 1 by omega)
 have K := qh (And.intro e1 (And.intro e2 g2))
 have HB0 := qh hb0
 have hbz : w.heap.size + 1 + 1 < w0.heap.size := by omega
 clear kr g1 g2 e1 e2 hb0 K0
 cases r with
 | error k =>
   have D1 := qh d1
   clear d1
   ((with_reducible refine D1.out.mono ?_); rintro e wv ⟨rfl, hg⟩)
   have q2 := K.out.1.grown hg (by intro e; injection e with e; omega)
   have q3 := K.out.2.1.grown hg (by intro e; injection e with e; omega)
   refine leaves_cons (f := 80) (args := #[.pointer (some ⟨w.heap.size, 0, none⟩), .pointer (some ⟨w.heap.size + 1, 0, none⟩)]) (by simp) (by simp [go_sem]) ?_
   refine (catch_bad w.heap.size (w.heap.size + 1) k wv (q2.cell 0) (q3.cell 0) (q2.frozen 0) (q3.frozen 0) (by omega)).mono ?_
   rintro e u' w'' ⟨rfl, rfl, rfl⟩
   have z2 := ((q2.set_ 0 (.int .i64 k)).far (p := ⟨w.heap.size + 1, 0, none⟩) (show w.heap.size ≠ w.heap.size + 1 by omega) (.int .i64 60)).cell 0
   have z3 := ((q3.far (p := ⟨w.heap.size, 0, none⟩) (show w.heap.size + 1 ≠ w.heap.size by omega) (.int .i64 k)).set_ 0 (.int .i64 60)).cell 0
   have hbv : Below w.heap.size w wv := Lx.below_grown HB0.out hg (fun k e => by injection e with e; omega) HB0.out.size
   have HBZ := qh ((hbv.setCell (p := ⟨w.heap.size, 0, none⟩) nl (.int .i64 k)).setCell (p := ⟨w.heap.size + 1, 0, none⟩) (Nat.le_succ _) (.int .i64 60))
   clear q2 q3 hg hbv
   generalize (wv.setCell ⟨w.heap.size, 0, none⟩ (.int .i64 k)).setCell ⟨w.heap.size + 1, 0, none⟩ (.int .i64 60) = z at *
   have z2' : z.cell? ⟨w.heap.size, 0, none⟩ = some (.int .i64 k) := by simpa using z2
   have z3' : z.cell? ⟨w.heap.size + 1, 0, none⟩ = some (.int .i64 60) := by simpa using z3
   clear z2 z3
   simp [Leaves, settle, results, Tryz.results60, go_sem, z2', z3']
   exact ⟨rfl, HBZ.out⟩
 | ok r =>
   obtain ⟨x, j⟩ := r
   have D1 := qh d1
   clear d1
   ((with_reducible refine D1.out.mono ?_); rintro e wv ⟨b, w1, rfl, rfl, hp, hg, hr⟩)
   have hsz1 := hg.size
   have q2 := (K.out.1.grown hg (by intro e; injection e with e; omega)).far (p := ⟨b2, 0, none⟩) (show w.heap.size ≠ b2 by omega) (.pointer (some ⟨b, 0, none⟩))
   have q3 := (K.out.2.1.grown hg (by intro e; injection e with e; omega)).far (p := ⟨b2, 0, none⟩) (show w.heap.size + 1 ≠ b2 by omega) (.pointer (some ⟨b, 0, none⟩))
   have qb := (K.out.2.2.grown hg (by intro e; injection e with e; omega)).set_ 0 (.pointer (some ⟨b, 0, none⟩))
   have qr := hp.row.far (p := ⟨b2, 0, none⟩) (show w.heap.size + 1 + 1 ≠ b2 by omega) (.pointer (some ⟨b, 0, none⟩))
   have hr2 : RepS (fun y => w.heap.size + 3 ≤ y) (w1.setCell ⟨b2, 0, none⟩ (.pointer (some ⟨b, 0, none⟩))) (.node x.1 x.2 .no) [.pointer (some ⟨b, 0, none⟩)] := (hr.more (S' := fun y => w.heap.size + 3 ≤ y) fun y hy _ => by omega).keep (by rw [World.size_setCell]; exact Nat.le_refl _) (fun y hy _ => Below.heap_setCell _ _ _ _ (show y ≠ b2 by omega)) (fun y h _ => h)
   have hgw : w.grownBy (w1.setCell ⟨b2, 0, none⟩ (.pointer (some ⟨b, 0, none⟩))) (some b2) := by
    have hb0 := HB0.out
    refine ⟨(Lx.grown_set w1 b2 0 _).os.trans (hg.os.trans hb0.os), (Lx.grown_set w1 b2 0 _).tape.trans (hg.tape.trans hb0.tape), (Lx.grown_set w1 b2 0 _).output.trans (hg.output.trans hb0.output), by rw [World.size_setCell]; omega, fun k hk hne => ?_⟩
    rw [Below.heap_setCell w1 ⟨b2, 0, none⟩ _ k (show k ≠ b2 from fun e => hne (by rw [e]))]
    exact (hg.block k (by omega) (fun e => by injection e with e; omega)).trans (hb0.block k hk)
   have m2 := q2.cell 0
   have m3 := q3.cell 0
   have mr := qr.cell 1
   have f2 := q2.frozen 0
   have f3 := q3.frozen 0
   have hszz : w.heap.size + 3 ≤ (w1.setCell ⟨b2, 0, none⟩ (.pointer (some ⟨b, 0, none⟩))).heap.size := by rw [World.size_setCell]; omega
   simp only [List.getElem?_toArray, List.getElem?_cons_zero, List.getElem?_cons_succ] at mr
   have Q := qh (And.intro q2 (And.intro q3 (And.intro qb (And.intro hgw hr2))))
   clear q2 q3 qb qr hgw hr2 hp hg hr
   generalize w1.setCell ⟨b2, 0, none⟩ (.pointer (some ⟨b, 0, none⟩)) = wz at *
   have m2' : wz.cell? ⟨w.heap.size, 0, none⟩ = some (.int .i64 0) := by simpa using m2
   have m3' : wz.cell? ⟨w.heap.size + 1, 0, none⟩ = some (.int .i64 0) := by simpa using m3
   clear m2 m3
   go_wp2
   obtain ⟨q2, q3, qb, hgw, hr2⟩ := Q.out
   refine leaves_cons (f := 80) (args := #[.pointer (some ⟨w.heap.size, 0, none⟩), .pointer (some ⟨w.heap.size + 1, 0, none⟩)]) (by simp) (by simp [go_sem]) ?_
   refine (catch_idle ⟨w.heap.size, 0, none⟩ ⟨w.heap.size + 1, 0, none⟩ _).mono ?_
   rintro e u' w'' ⟨rfl, rfl, rfl⟩
   have z2 := ((q2.set_ 0 (.int .i64 j)).far (p := ⟨w.heap.size + 1, 0, none⟩) (show w.heap.size ≠ w.heap.size + 1 by omega) (.int .i64 0)).cell 0
   have z3 := ((q3.far (p := ⟨w.heap.size, 0, none⟩) (show w.heap.size + 1 ≠ w.heap.size by omega) (.int .i64 j)).set_ 0 (.int .i64 0)).cell 0
   have zb := (qb.far (p := ⟨w.heap.size, 0, none⟩) (show b2 ≠ w.heap.size by omega) (.int .i64 j)).far (p := ⟨w.heap.size + 1, 0, none⟩) (show b2 ≠ w.heap.size + 1 by omega) (.int .i64 0)
   have zg : w.grownBy ((wz.setCell ⟨w.heap.size, 0, none⟩ (.int .i64 j)).setCell ⟨w.heap.size + 1, 0, none⟩ (.int .i64 0)) (some b2) := by
    refine ⟨hgw.os, hgw.tape, hgw.output, by rw [World.size_setCell, World.size_setCell]; exact hgw.size, fun k hk hne => ?_⟩
    rw [Below.heap_setCell _ ⟨w.heap.size + 1, 0, none⟩ _ k (show k ≠ w.heap.size + 1 by omega), Below.heap_setCell _ ⟨w.heap.size, 0, none⟩ _ k (show k ≠ w.heap.size by omega)]
    exact hgw.block k hk hne
   have zr : RepS (fun y => w.heap.size ≤ y) ((wz.setCell ⟨w.heap.size, 0, none⟩ (.int .i64 j)).setCell ⟨w.heap.size + 1, 0, none⟩ (.int .i64 0)) (.node x.1 x.2 .no) [.pointer (some ⟨b, 0, none⟩)] := by
    have h1 := hr2.keep (S' := fun y => w.heap.size + 3 ≤ y) (w' := wz.setCell ⟨w.heap.size, 0, none⟩ (.int .i64 j)) (Nat.le_of_eq (World.size_setCell _ _ _).symm) (fun y hy _ => Below.heap_setCell _ ⟨w.heap.size, 0, none⟩ _ _ (show y ≠ w.heap.size by omega)) (fun y h _ => h)
    have h2 := h1.keep (S' := fun y => w.heap.size + 3 ≤ y) (w' := (wz.setCell ⟨w.heap.size, 0, none⟩ (.int .i64 j)).setCell ⟨w.heap.size + 1, 0, none⟩ (.int .i64 0)) (Nat.le_of_eq (World.size_setCell _ _ _).symm) (fun y hy _ => Below.heap_setCell _ ⟨w.heap.size + 1, 0, none⟩ _ _ (show y ≠ w.heap.size + 1 by omega)) (fun y h _ => h)
    exact h2.more fun y hy _ => by omega
   have Z := qh (And.intro zb (And.intro zg zr))
   clear zb zg zr q2 q3 qb hgw hr2 Q
   generalize (wz.setCell ⟨w.heap.size, 0, none⟩ (.int .i64 j)).setCell ⟨w.heap.size + 1, 0, none⟩ (.int .i64 0) = z at *
   have z2' : z.cell? ⟨w.heap.size, 0, none⟩ = some (.int .i64 j) := by simpa using z2
   have z3' : z.cell? ⟨w.heap.size + 1, 0, none⟩ = some (.int .i64 0) := by simpa using z3
   clear z2 z3
   simp [Leaves, settle, results, Tryz.results60, go_sem, z2', z3']
   exact ⟨b, rfl, Z.out.2.1, Z.out.1, Z.out.2.2⟩
theorem block_par {w : World} {A : Option Addr} {L : List PT} (h : RowAt w A L) (c : Nat) {i : Nat} (hi : i ≤ 60000) {r : Except Nat (T1 × Nat)}
 (HF0 : ∀ w0 br, TkS w0 br A L → ∀ wx, PInv w0 wx br A c L i → Calls Tryz.prog 59 #[.pointer (some ⟨br, 0, none⟩)] wx (TreeR wx.heap.size w0 wx br A c L r)) :
 Calls Tryz.prog 50 #[.slice A L.length c, .int .i64 i] w (ParR w r) := by
 have hb0 : Below w.heap.size w ((w.alloc (.cells #[.func (.func 59) #[] #[]] 108)).alloc (.cells #[.pointer none] 31)) := ((Below.refl _ _).alloc nl _).alloc (by rw [World.size_alloc]; exact Nat.le_succ _) _
 have k1 : Blk ((w.alloc (.cells #[.func (.func 59) #[] #[]] 108)).alloc (.cells #[.pointer none] 31)) w.heap.size 108 #[.func (.func 59) #[] #[]] := (heap_alloc_old _ _ (by rw [World.size_alloc]; exact Nat.lt_succ_self _)).trans (heap_alloc_new w _)
 have k2 : Blk ((w.alloc (.cells #[.func (.func 59) #[] #[]] 108)).alloc (.cells #[.pointer none] 31)) (w.heap.size + 1) 31 #[.pointer none] := by
  have h := heap_alloc_new (w.alloc (.cells #[.func (.func 59) #[] #[]] 108)) (.cells #[.pointer none] 31)
  rw [World.size_alloc] at h
  exact h
 have D := qh (parse_any (h.below hb0) c hi k1 k2 HF0)
 have HB0 := qh hb0
 have K2 := qh k2
 have hsz : ((w.alloc (.cells #[.func (.func 59) #[] #[]] 108)).alloc (.cells #[.pointer none] 31)).heap.size = w.heap.size + 2 := by simp [World.size_alloc]
 have hone : Calls Tryz.prog 58 #[.slice A L.length c, .int .i64 i, .func (.func 59) #[] #[]] w (ParR w r) := by
  have hmf : ∀ (fn : Fn) (first cap : Array Value) (w : World), (Instr.makeFunc fn first cap).run Tryz.prog w = .ok (.func fn first cap) w := fun _ _ _ _ => rfl
  clear h HF0 hb0 k1 k2
  cases r with
  | error k =>
    go_enter Tryz.func58, Tryz.ntmps58
    go_wp2_with fail
    ((with_reducible refine D.out.mono ?_); rintro e w1 ⟨rfl, hb⟩)
    have kb : Blk w1 (w.heap.size + 1) 31 #[.pointer none] := (hb.block _ (by rw [hsz]; omega)).trans K2.out
    have z0 := kb.cell 0
    have zf := kb.frozen 0
    simp only [List.getElem?_toArray, List.getElem?_cons_zero, List.getElem?_cons_succ] at z0
    have hlt := kb.lt
    have HB1 := qh (HB0.out.trans (hb.mono HB0.out.size))
    clear hb kb
    go_wp2
    have zz := World.cell?_setCell_same w1 ⟨w.heap.size + 1, 0, none⟩ (.pointer none) z0
    refine bodyPost_ret (v := .tuple #[.pointer none, .int .i64 k, .int .i64 60]) (by simp [results, Tryz.results58, go_sem, zz]) rfl ?_
    exact ⟨rfl, HB1.out.setCell (p := ⟨w.heap.size + 1, 0, none⟩) (Nat.le_succ _) _⟩
  | ok x =>
    obtain ⟨x, j⟩ := x
    go_enter Tryz.func58, Tryz.ntmps58
    go_wp2_with fail
    ((with_reducible refine D.out.mono ?_); rintro e w1 ⟨b, rfl, hg, hbk, hr⟩)
    have z0 := hbk.cell 0
    have zf := hbk.frozen 0
    simp only [List.getElem?_toArray, List.getElem?_cons_zero, List.getElem?_cons_succ] at z0
    have hlt := hbk.lt
    have HR := qh (And.intro hg (And.intro hbk hr))
    clear hg hbk hr
    go_wp2
    have zz := World.cell?_setCell_same w1 ⟨w.heap.size + 1, 0, none⟩ (.pointer (some ⟨b, 0, none⟩)) z0
    refine bodyPost_ret (v := .tuple #[.pointer (some ⟨b, 0, none⟩), .int .i64 j, .int .i64 0]) (by simp [results, Tryz.results58, go_sem, zz]) rfl ?_
    obtain ⟨hg, hbk, hr⟩ := HR.out
    refine ⟨b, rfl, ?_, ?_⟩
    ·exact (hr.keep (S' := fun y => w.heap.size + 2 ≤ y) (w' := w1.setCell ⟨w.heap.size + 1, 0, none⟩ (.pointer (some ⟨b, 0, none⟩))) (Nat.le_of_eq (World.size_setCell _ _ _).symm) (fun y hy _ => Below.heap_setCell _ ⟨w.heap.size + 1, 0, none⟩ _ _ (show y ≠ w.heap.size + 1 by omega)) (fun y h _ => by omega)).more fun y hy _ => by omega
    ·exact (HB0.out.grown hg HB0.out.size (fun k e => by injection e with e; omega)).setCell (p := ⟨w.heap.size + 1, 0, none⟩) (Nat.le_succ _) _
 have HO := qh hone
 clear hone h HF0 hb0 k1 k2
 cases r with
 | error k =>
   go_enter Tryz.func50, Tryz.ntmps50
   go_wp2_with fail
   ((with_reducible refine HO.out.mono ?_); rintro e w1 ⟨rfl, hb⟩)
   have HB := qh hb
   clear hb
   go_wp2
   go_ret3
   exact ⟨rfl, HB.out⟩
 | ok x =>
   obtain ⟨x, j⟩ := x
   go_enter Tryz.func50, Tryz.ntmps50
   go_wp2_with fail
   ((with_reducible refine HO.out.mono ?_); rintro e w1 ⟨b, rfl, hr, hb⟩)
   have HB := qh (And.intro hr hb)
   clear hr hb
   go_wp2
   go_ret3
   exact ⟨b, rfl, HB.out.1, HB.out.2⟩
end De
namespace Un
open Go.RowKit
open Tr (Nd Fo RepS RepN Rep cellsN)
open Lx (Tk noTk Blk run_store_complexL TokAt)
open Fl
open Ex hiding LG new_lg tkOf tkV
open St (TkS g2_max Good2 isNm KG KN new_kg new_0 kid_facts one_ptr sSem sCol sEnd isWd6 ret_ bind_err need_n)
open De (LG new_leaf new_lg namesF sImport sModule run_field0)
attribute [local go_sem] run_store_complexL run_field0 run_field1 run_field3
theorem row_at {w0 w : World} {br c i : Nat} {A : Option Addr} {L : List PT} (ht : TkS w0 br A L) (h : PInv w0 w br A c L i) : RowAt w A L := by
 refine ⟨⟨ht.toks.reads.1, fun h0 => ?_⟩, fun ad e => Nat.lt_of_lt_of_le (ht.low ad e) h.grown.size, ht.toks.len⟩
 obtain ⟨ad, e, hlt, hc⟩ := ht.toks.reads.2 h0
 refine ⟨ad, e, Nat.lt_of_lt_of_le hlt h.grown.size, fun j u hu => ?_⟩
 rw [← hc j u hu]
 have hne := ht.toks.far _ e
 exact World.cell?_of_block (by rw [St.add_block]; exact h.grown.block ad.block hlt (fun e => hne (by simpa using e)))
def ListR (B : Nat) (w0 w : World) (br : Nat) (A : Option Addr) (c : Nat) (L : List PT) (r : Except Nat (List T1 × Nat)) (e : Ending) (w' : World) : Prop := match r with
 | .ok (l, j) => ∃ sv xs, e = .returned sv ∧ PInv w0 w' br A c L j ∧ w.grownBy w' (some br) ∧ LG B w' sv l xs
 | .error k => e = bad k ∧ w.grownBy w' (some br)
section
variable {br b c i i' : Nat} {w0 w wr w1 : World} {A : Option Addr} {L : List PT} {u : Value}
theorem PG.hung {row : Option Nat} (h : PG w0 w wr br A c L i) (hw : PInv w0 w br A c L i') (o : Obj) (hg : (wr.alloc o).grownBy w1 row) (hr : ∀ k, row = some k → w.heap.size ≤ k) (hb : w.heap.size ≤ b) : PG w0 w (w1.setCell ⟨b, 4, none⟩ u) br A c L i :=
 ((h.alloc o).gfar hw hg hr).far hw hb 4 u
end
section
variable {B0 B B1 b : Nat} {w : World} {d : Nd} {sv svl : Value} {acc l : List T1} {xs xsl : List Value}
theorem KG.cell_set (h : KG B0 B w b d sv acc xs) (o : Nat) (u : Value) (d' : Nd) (hc : (cellsN d sv).setIfInBounds o u = cellsN d' sv) : KG B0 B (w.setCell ⟨b, o, none⟩ u) b d' sv acc xs := by
 obtain ⟨⟨h1, h2, h4⟩, h3, h5⟩ := h
 have hne : sv.ownBlock ≠ some b := Tr.own_blk_ne h2 h1 (by decide)
 refine ⟨⟨?_, h2.kept (Tr.setCell_grown _ _ _) (.inr hne), h4⟩, h3.keep (Nat.le_of_eq (World.size_setCell _ _ _).symm) (fun y hy _ => Below.heap_setCell w ⟨b, o, none⟩ u y hy.2.1) (fun y hy _ => hy), h5⟩
 have := h1.set_ o u
 rw [hc] at this
 exact this
theorem KG.kids (h : KG B0 B w b d sv acc xs) (hl : LG B1 w svl l xsl) (hb : b < B1) (hB : B0 ≤ B1) (hB2 : B ≤ B1) : KG B0 B (w.setCell ⟨b, 4, none⟩ svl) b d svl l xsl := by
 obtain ⟨⟨h1, h2, h4⟩, h3, h5⟩ := h
 refine ⟨⟨?_, Lx.own_mono (hl.own.kept (Tr.setCell_grown _ _ _) (.inr fun e => ?_)) hB2, h4⟩, hl.rep.keep (Nat.le_of_eq (World.size_setCell _ _ _).symm) (fun y hy _ => Below.heap_setCell w ⟨b, 4, none⟩ svl y (show y ≠ b by have := hy.1; omega)) (fun y hy _ => ⟨by have := hy.1; omega, by have := hy.1; omega, hy.2⟩), hl.len⟩
 ·have := h1.set_ 4 svl
  rwa [Tr.cellsN_set] at this
 ·have := (hl.own.lt _ e).1
  simp only at this
  omega
end
theorem names_any {g : Nat} {w0 : World} {br c : Nat} {A : Option Addr} {L : List PT} (ht : TkS w0 br A L) (hg : L.length < g) (i : Nat) (hi : i ≤ L.length) (w : World) (h : PInv w0 w br A c L i) :
 Calls Tryz.prog 49 #[.pointer (some ⟨br, 0, none⟩)] w (ListR w.heap.size w0 w br A c L (namesF g [] L i)) := by
 have hbr0 := h.row.lt
 have hlen := ht.toks.len
 have H0 := qh h
 have H := qh (PG.start h)
 have HT := qh ht
 obtain ⟨i0, hi0, hz0, hz1, hz2⟩ := info_parts infoN
 obtain ⟨res, hs0⟩ : ∃ r, r = namesF g [] L i := ⟨_, rfl⟩
 rw [← hs0]
 have HS := qh hs0
 clear h ht hs0
 go_enter Tryz.func49, Tryz.ntmps49
 go_wp2_with fail
 go_loopg [2] (L.length + 1) (fun gh sv wr => ∃ (lv : Value) (acc : List T1) (xs : List Value) (j f : Nat), lv = sv ∧ j ≤ L.length ∧ L.length + 1 - j ≤ gh ∧ L.length < j + f ∧ acc.length ≤ j ∧ Hid (res = namesF f acc L j) ∧ Hid (PG w0 w wr br A c L j) ∧ Hid (LG w.heap.size wr lv acc xs))
 case atStart => exact ⟨_, [], [], i, g, rfl, hi, by omega, by omega, Nat.zero_le _, HS, H, qh (LG.nil _ _)⟩
 case round =>
  clear H HS
  obtain ⟨lv, acc, xs, j, f, rfl, hj, hgh, hf, hac, HS, H, HG⟩ := hrel
  obtain ⟨f, rfl⟩ : ∃ f', f = f' + 1 := ⟨f - 1, by omega⟩
  obtain ⟨wo, hwo⟩ : ∃ wo : World, wo = wr := ⟨_, rfl⟩
  by_cases hk : (tk L j).1.kind = 1
  ·have hjl : j < L.length := by
    rcases Nat.lt_or_ge j L.length with h | h
    ·exact h
    ·rw [tk_end h] at hk; cases hk
   have D1 := name_ok HT.out.toks (i := j) (by omega) sNil _ H.out.1 (by simp [isThe, isNm, hk])
   obtain ⟨k_, p1, p2, q1, q2, t_, n_, e1, e2⟩ := val_form (tk L j)
   rw [e2] at D1
   have HS := qh (show res = tokP (tT sCom) (fun _ => namesF f (acc ++ [mk 1 (p1, p2) t_ 0 []])) (retP (acc ++ [mk 1 (p1, p2) t_ 0 []])) L (j + 1) from by
    rw [HS.out, namesF, tok_y (t := isNm) (by simp [isNm, hk]), e1])
   have D1 := qh D1
   clear e1 e2 hk
   go_wp2_with fail
   ((with_reducible refine D1.out.mono ?_); rintro e wx ⟨rfl, hp, hgr⟩)
   have hxl : xs.length ≤ 1000000 := by have := HG.out.len; omega
   have HG := qh (HG.out.grown hgr hbr0)
   have H := qh (H.out.trans ⟨hp, hgr⟩)
   clear hp hgr D1
   have hB1 := Blk.new wx 40 #[.int .u8 k_, .complex .f64 (fl p1) (fl p2), .complex .f64 (fl q1) (fl q2), .string t_, .int .i64 n_]
   have z1 := hB1.cell 1
   have z3 := hB1.cell 3
   simp only [List.getElem?_toArray, List.getElem?_cons_zero, List.getElem?_cons_succ] at z1 z3
   have H := qh (H.out.alloc (.cells #[.int .u8 k_, .complex .f64 (fl p1) (fl p2), .complex .f64 (fl q1) (fl q2), .string t_, .int .i64 n_] 40))
   have HG := qh (HG.out.below ((Below.refl _ _).alloc nl (.cells #[.int .u8 k_, .complex .f64 (fl p1) (fl p2), .complex .f64 (fl q1) (fl q2), .string t_, .int .i64 n_] 40)))
   clear hB1
   have NW := qh (new_leaf (w := wx.alloc (.cells #[.int .u8 k_, .complex .f64 (fl p1) (fl p2), .complex .f64 (fl q1) (fl q2), .string t_, .int .i64 n_] 40)) 1 1 rfl p1 p2 t_ 0)
   go_wp2_with fail
   ((with_reducible refine NW.out.mono ?_); rintro e wy ⟨b, rfl, hb, hr⟩)
   have HR := qh (HG.out.new hr H.out.2.size)
   have HG := qh (HG.out.below hb)
   have H := qh (H.out.below hb)
   have HGO := qh (fun k e => HG.out.own.lt k e)
   clear hb hr NW z1 z3
   have Q := kid_facts (cs := #[.pointer (some ⟨b, 0, none⟩)]) wy.heap.size rfl H.out.2.size HG.out.own hxl (one_ptr (some ⟨b, 0, none⟩)) (by simp)
   go_wp2_with (at_builtin; refine wpList_append_lies _ rfl _ _ _ rfl w.heap.size 31 i0 _ 1 8 Tryz.underlying36 hi0 hz0 hz1 hz2 rfl (by omega) lv xs.length xs rfl Q.out.2.2.2.2 ⟨wy.heap.size, 0, none⟩ 1 1 #[.pointer (some ⟨b, 0, none⟩)].toList rfl rfl Q.out.1 Q.out.2.1 (by omega) Q.out.2.2.1 (by omega) Q.out.2.2.2.1 (wy.heap.size + 1) (by simp) ?_; intro g' cap w5 hown1 hgrow hor hlt5)
   have HG := qh (LG.step (HG.out.below ((Below.refl _ _).alloc nl (.cells #[.pointer (some ⟨b, 0, none⟩)] 31))) (HR.out.below ((Below.refl _ _).alloc nl (.cells #[.pointer (some ⟨b, 0, none⟩)] 31))) hown1 hgrow (hor.imp id fun e => e.trans (World.size_alloc _ _).symm))
   have H := qh ((H.out.alloc (.cells #[.pointer (some ⟨b, 0, none⟩)] 31)).gfar H0.out hgrow (fun k e => (HGO.out _ e).1))
   clear hown1 hgrow hor hlt5 HR HGO Q
   cases hT : isT L (j + 1) sCom with
   | true =>
     have hjn := isT_lt hT
     have D1 := qh (eat_yes HT.out.toks (i := j + 1) (by omega) sCom _ H.out.1 hT)
     have HS := qh (HS.out.trans (tok_y (t := tT sCom) hT))
     clear hT
     go_wp2_with fail
     ((with_reducible refine (D1.out).mono ?_); rintro e wz ⟨rfl, hb⟩)
     have H := qh (H.out.trans hb)
     have HG := qh (HG.out.grown hb.2 hbr0)
     clear hb D1
     go_wp2
     go_roundg (L.length + 1 - (j + 1 + 1))
     case rel => exact ⟨_, _, _, j + 1 + 1, f, rfl, by omega, by omega, by omega, by simp only [List.length_append, List.length_cons, List.length_nil]; omega, HS, H, HG⟩
     case measure => omega
   | false =>
     have D1 := qh (eat_no HT.out.toks (i := j + 1) (by omega) sCom _ H.out.1 hT)
     have HS := qh ((HS.out.trans (tok_n (t := tT sCom) hT)).trans ret_)
     clear hT
     go_wp2_with fail
     ((with_reducible refine (D1.out).mono ?_); rintro e wz ⟨rfl, hb⟩)
     have H := qh (H.out.trans hb)
     have HG := qh (HG.out.grown hb.2 hbr0)
     clear hb D1
     go_wp2
     go_ret
     rw [HS.out]
     exact ⟨_, _, rfl, H.out.1, H.out.2, HG.out⟩
  ·have D1 := qh (name_no HT.out.toks (i := j) (by omega) sNil _ H.out.1 (by simp [isThe, isNm, hk]))
   have HS := qh (show res = .error j from by rw [HS.out, namesF, tok_n (t := isNm) (by simp [isNm, hk])]; rfl)
   go_wp2_with fail
   ((with_reducible refine D1.out.mono ?_); rintro e w1 ⟨rfl, hb⟩)
   have H3 := qh (grown_trans H.out.2 hb)
   clear hb
   go_wp2
   refine ⟨rfl, ?_⟩
   rw [HS.out]
   exact ⟨rfl, H3.out⟩
end Un
end Go.Proofs.YtkemhmfdooghkaaGreatDoor
