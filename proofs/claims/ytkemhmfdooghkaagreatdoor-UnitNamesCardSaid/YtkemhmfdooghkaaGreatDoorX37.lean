import Derived.Test.YtkemhmfdooghkaaGreatDoorX36
import Derived.Test.YtkemhmfdooghkaaGreatDoorX26
set_option linter.unusedSimpArgs false
set_option linter.unusedVariables false
set_option maxRecDepth 100000
set_option maxHeartbeats 6400000
namespace Go.Proofs.YtkemhmfdooghkaaGreatDoor
namespace De
open Go.RowKit
open Tr (Nd Fo RepS RepN Rep cellsN)
open Lx (Tk noTk Blk run_store_complexL TokAt)
open Fl
open Ex
open St (TkS g2_max g2_expr g2_labels Good2 isNm KG KN new_kg new_0 kid_facts one_ptr bind_ok bind_err need_y need_n tok_y tok_n ret_ add_block sSem sCol sEnd sOf sBar sElse sCase sTo armOut isWd6)
attribute [local go_sem] run_store_complexL run_field0 run_field1 run_field3
def OneL (w0 w : World) (br b2 : Nat) (A : Option Addr) (c : Nat) (L : List PT) (r : Except Nat (List T1 × Nat)) (e : Ending) (w' : World) : Prop := match r with
 | .ok (x, j) => ∃ sv xs w1, e = .returned (.tuple #[]) ∧ w' = w1.setCell ⟨b2, 0, none⟩ sv ∧ PInv w0 w1 br A c L j ∧ w.grownBy w1 (some br) ∧ LG w.heap.size w1 sv x xs
 | .error k => e = bad k ∧ w.grownBy w' (some br)
def ParseL (w : World) (b2 : Nat) (r : Except Nat (List T1 × Nat)) (e : Ending) (w' : World) : Prop := match r with
 | .ok (x, j) => ∃ sv xs B, e = .returned (.tuple #[.int .i64 j, .int .i64 0]) ∧ w.grownBy w' (some b2) ∧ Blk w' b2 36 #[sv] ∧ w.heap.size ≤ B ∧ LG B w' sv x xs
 | .error k => e = .returned (.tuple #[.int .i64 k, .int .i64 60]) ∧ Below w.heap.size w w'
theorem decls1_any {w0 w : World} {br c b1 b2 : Nat} {A : Option Addr} {L : List PT} {r : Except Nat (List T1 × Nat)} {df : Bool} (HF : Calls Tryz.prog 62 #[.pointer (some ⟨br, 0, none⟩), .bool df] w (ListR w.heap.size w0 w br A c L r))
 (h1 : w.cell? ⟨b1, 0, none⟩ = some (.bool df)) (h2 : w.cell? ⟨b2, 0, none⟩ = some (.slice none 0 0)) (f2 : w.frozen? ⟨b2, 0, none⟩ = false) (hn : b2 ≠ br) :
 Calls Tryz.prog 61 #[.pointer (some ⟨br, 0, none⟩), .pointer (some ⟨b1, 0, none⟩), .pointer (some ⟨b2, 0, none⟩)] w (OneL w0 w br b2 A c L r) := by
 have l1 := World.block_lt_of_cell? w _ h1
 have l2 := World.block_lt_of_cell? w _ h2
 have HF := qh HF
 cases r with
 | error k =>
   go_enter Tryz.func61, Tryz.ntmps61
   go_wp2_with fail
   ((with_reducible refine HF.out.mono ?_); rintro e w1 ⟨rfl, hb⟩)
   have HB := qh hb
   clear hb
   go_wp2
   exact ⟨rfl, rfl, HB.out⟩
 | ok x =>
   obtain ⟨x, j⟩ := x
   go_enter Tryz.func61, Tryz.ntmps61
   go_wp2_with fail
   ((with_reducible refine HF.out.mono ?_); rintro e w1 ⟨sv, xs, rfl, hp, hg, hr⟩)
   obtain ⟨A9, c9, rfl, _⟩ := hr.form
   have z2 : w1.cell? ⟨b2, 0, none⟩ = some (.slice none 0 0) := (World.cell?_of_block (a := ⟨b2, 0, none⟩) (hg.block b2 l2 (fun e => hn (by injection e)))).trans h2
   have zf : w1.frozen? ⟨b2, 0, none⟩ = false := (World.frozen?_of_block (a := ⟨b2, 0, none⟩) (hg.block b2 l2 (fun e => hn (by injection e)))).trans f2
   have HR := qh (And.intro hp (And.intro hg hr))
   clear hp hg hr
   go_wp2
   go_end0
   exact ⟨_, xs, w1, rfl, rfl, HR.out.1, HR.out.2.1, HR.out.2.2⟩
theorem parseL_any {w : World} {A : Option Addr} {L : List PT} (h : RowAt w A L) (c : Nat) {i : Nat} (hi : i ≤ 60000) {b1 b2 : Nat} {df : Bool} (k1 : Blk w b1 4 #[.bool df]) (k2 : Blk w b2 36 #[.slice none 0 0]) {r : Except Nat (List T1 × Nat)}
 (HF0 : ∀ w0 br, TkS w0 br A L → ∀ wx, PInv w0 wx br A c L i → Calls Tryz.prog 62 #[.pointer (some ⟨br, 0, none⟩), .bool df] wx (ListR wx.heap.size w0 wx br A c L r)) :
 Calls Tryz.prog 60 #[.slice A L.length c, .int .i64 i, .func (.func 61) #[] #[.pointer (some ⟨b1, 0, none⟩), .pointer (some ⟨b2, 0, none⟩)]] w (ParseL w b2 r) := by
 have HF := qh HF0
 have hL := h.len
 have hA := h.reads
 have hlow := h.low
 have l1 := k1.lt
 have l2 := k2.lt
 clear h HF0
 have hmf : ∀ (fn : Fn) (first cap : Array Value) (w : World), (Instr.makeFunc fn first cap).run Tryz.prog w = .ok (.func fn first cap) w := fun _ _ _ _ => rfl
 have x0 : (0 : Int) ≤ (i : Int) := by omega
 have x1 : ¬ (i : Int) < 0 := by omega
 have HA := qh hA
 have K0 := qh (And.intro k1 k2)
 clear hA k1 k2
 go_enter_defers Tryz.func60, Tryz.ntmps60
 go_wp2_with fail
 obtain ⟨hb0, hs0, e1, e2, kr⟩ := par_world w A c L i
 generalize (((w.alloc (.cells #[.int .i64 0] 3)).alloc (.cells #[.int .i64 0] 32)).alloc (.cells #[.slice A L.length c, .int .i64 i] 120)) = w0 at *
 have HT : Hid (TkS w0 (w.heap.size + 1 + 1) A L) := qh ⟨⟨(HA.out.below hb0).more hb0.size, by omega, fun ad e => by have := hlow ad e; omega, hL⟩, fun ad e => by have := hlow ad e; have := hb0.size; omega⟩
 have H := qh (PG.start (⟨kr, ⟨rfl, rfl, rfl, Nat.le_refl _, fun _ _ _ => rfl⟩⟩ : PInv w0 w0 (w.heap.size + 1 + 1) A c L i))
 have g1 : Blk w0 b1 4 #[.bool df] := (hb0.block b1 l1).trans K0.out.1
 have g2 : Blk w0 b2 36 #[.slice none 0 0] := (hb0.block b2 l2).trans K0.out.2
 have d1 := decls1_any (c := c) (HF.out w0 _ HT.out w0 H.out.1) (g1.cell 0) (g2.cell 0) (g2.frozen 0) (show b2 ≠ w.heap.size + 1 + 1 by omega)
 have K := qh (And.intro e1 (And.intro e2 g2))
 have HB0 := qh hb0
 have hbz : w.heap.size + 1 + 1 < w0.heap.size := by omega
 clear kr g1 g2 e1 e2 hb0 K0
 cases r with
 | error k =>
   have D1 := qh d1
   clear d1
   ((with_reducible refine D1.out.mono ?_); rintro e wv ⟨rfl, hg⟩)
   have q2 := K.out.1.grown hg (by intro e; injection e with e; omega)
   have q3 := K.out.2.1.grown hg (by intro e; injection e with e; omega)
   refine leaves_cons (f := 80) (args := #[.pointer (some ⟨w.heap.size, 0, none⟩), .pointer (some ⟨w.heap.size + 1, 0, none⟩)]) (by simp) (by simp [go_sem]) ?_
   refine (catch_bad w.heap.size (w.heap.size + 1) k wv (q2.cell 0) (q3.cell 0) (q2.frozen 0) (q3.frozen 0) (by omega)).mono ?_
   rintro e u' w'' ⟨rfl, rfl, rfl⟩
   have z2 := ((q2.set_ 0 (.int .i64 k)).far (p := ⟨w.heap.size + 1, 0, none⟩) (show w.heap.size ≠ w.heap.size + 1 by omega) (.int .i64 60)).cell 0
   have z3 := ((q3.far (p := ⟨w.heap.size, 0, none⟩) (show w.heap.size + 1 ≠ w.heap.size by omega) (.int .i64 k)).set_ 0 (.int .i64 60)).cell 0
   have hbv : Below w.heap.size w wv := Lx.below_grown HB0.out hg (fun k e => by injection e with e; omega) HB0.out.size
   have HBZ := qh ((hbv.setCell (p := ⟨w.heap.size, 0, none⟩) nl (.int .i64 k)).setCell (p := ⟨w.heap.size + 1, 0, none⟩) (Nat.le_succ _) (.int .i64 60))
   clear q2 q3 hg hbv
   generalize (wv.setCell ⟨w.heap.size, 0, none⟩ (.int .i64 k)).setCell ⟨w.heap.size + 1, 0, none⟩ (.int .i64 60) = z at *
   have z2' : z.cell? ⟨w.heap.size, 0, none⟩ = some (.int .i64 k) := by simpa using z2
   have z3' : z.cell? ⟨w.heap.size + 1, 0, none⟩ = some (.int .i64 60) := by simpa using z3
   clear z2 z3
   simp [Leaves, settle, results, Tryz.results60, go_sem, z2', z3']
   exact ⟨rfl, HBZ.out⟩
 | ok r =>
   obtain ⟨x, j⟩ := r
   have D1 := qh d1
   clear d1
   ((with_reducible refine D1.out.mono ?_); rintro e wv ⟨sv, xs, w1, rfl, rfl, hp, hg, hr⟩)
   have hsz1 := hg.size
   have q2 := (K.out.1.grown hg (by intro e; injection e with e; omega)).far (p := ⟨b2, 0, none⟩) (show w.heap.size ≠ b2 by omega) sv
   have q3 := (K.out.2.1.grown hg (by intro e; injection e with e; omega)).far (p := ⟨b2, 0, none⟩) (show w.heap.size + 1 ≠ b2 by omega) sv
   have qb := (K.out.2.2.grown hg (by intro e; injection e with e; omega)).set_ 0 sv
   have qr := hp.row.far (p := ⟨b2, 0, none⟩) (show w.heap.size + 1 + 1 ≠ b2 by omega) sv
   have hr2 : LG w0.heap.size (w1.setCell ⟨b2, 0, none⟩ sv) sv x xs := hr.grown (Lx.grown_set w1 b2 0 sv) (by omega)
   have hgw : w.grownBy (w1.setCell ⟨b2, 0, none⟩ sv) (some b2) := by
    have hb0 := HB0.out
    refine ⟨(Lx.grown_set w1 b2 0 _).os.trans (hg.os.trans hb0.os), (Lx.grown_set w1 b2 0 _).tape.trans (hg.tape.trans hb0.tape), (Lx.grown_set w1 b2 0 _).output.trans (hg.output.trans hb0.output), by rw [World.size_setCell]; omega, fun k hk hne => ?_⟩
    rw [Below.heap_setCell w1 ⟨b2, 0, none⟩ _ k (show k ≠ b2 from fun e => hne (by rw [e]))]
    exact (hg.block k (by omega) (fun e => by injection e with e; omega)).trans (hb0.block k hk)
   have m2 := q2.cell 0
   have m3 := q3.cell 0
   have mr := qr.cell 1
   have f2 := q2.frozen 0
   have f3 := q3.frozen 0
   have hszz : w.heap.size + 3 ≤ (w1.setCell ⟨b2, 0, none⟩ sv).heap.size := by rw [World.size_setCell]; omega
   simp only [List.getElem?_toArray, List.getElem?_cons_zero, List.getElem?_cons_succ] at mr
   have Q := qh (And.intro q2 (And.intro q3 (And.intro qb (And.intro hgw hr2))))
   clear q2 q3 qb qr hgw hr2 hp hg hr
   generalize w1.setCell ⟨b2, 0, none⟩ sv = wz at *
   have m2' : wz.cell? ⟨w.heap.size, 0, none⟩ = some (.int .i64 0) := by simpa using m2
   have m3' : wz.cell? ⟨w.heap.size + 1, 0, none⟩ = some (.int .i64 0) := by simpa using m3
   clear m2 m3
   go_wp2
   obtain ⟨q2, q3, qb, hgw, hr2⟩ := Q.out
   refine leaves_cons (f := 80) (args := #[.pointer (some ⟨w.heap.size, 0, none⟩), .pointer (some ⟨w.heap.size + 1, 0, none⟩)]) (by simp) (by simp [go_sem]) ?_
   refine (catch_idle ⟨w.heap.size, 0, none⟩ ⟨w.heap.size + 1, 0, none⟩ _).mono ?_
   rintro e u' w'' ⟨rfl, rfl, rfl⟩
   have z2 := ((q2.set_ 0 (.int .i64 j)).far (p := ⟨w.heap.size + 1, 0, none⟩) (show w.heap.size ≠ w.heap.size + 1 by omega) (.int .i64 0)).cell 0
   have z3 := ((q3.far (p := ⟨w.heap.size, 0, none⟩) (show w.heap.size + 1 ≠ w.heap.size by omega) (.int .i64 j)).set_ 0 (.int .i64 0)).cell 0
   have zb := (qb.far (p := ⟨w.heap.size, 0, none⟩) (show b2 ≠ w.heap.size by omega) (.int .i64 j)).far (p := ⟨w.heap.size + 1, 0, none⟩) (show b2 ≠ w.heap.size + 1 by omega) (.int .i64 0)
   have zg : w.grownBy ((wz.setCell ⟨w.heap.size, 0, none⟩ (.int .i64 j)).setCell ⟨w.heap.size + 1, 0, none⟩ (.int .i64 0)) (some b2) := by
    refine ⟨hgw.os, hgw.tape, hgw.output, by rw [World.size_setCell, World.size_setCell]; exact hgw.size, fun k hk hne => ?_⟩
    rw [Below.heap_setCell _ ⟨w.heap.size + 1, 0, none⟩ _ k (show k ≠ w.heap.size + 1 by omega), Below.heap_setCell _ ⟨w.heap.size, 0, none⟩ _ k (show k ≠ w.heap.size by omega)]
    exact hgw.block k hk hne
   have zr := (hr2.grown (Lx.grown_set wz w.heap.size 0 (.int .i64 j)) (by omega)).grown (Lx.grown_set _ (w.heap.size + 1) 0 (.int .i64 0)) (by omega)
   have Z := qh (And.intro zb (And.intro zg zr))
   clear zb zg zr q2 q3 qb hgw hr2 Q
   generalize (wz.setCell ⟨w.heap.size, 0, none⟩ (.int .i64 j)).setCell ⟨w.heap.size + 1, 0, none⟩ (.int .i64 0) = z at *
   have z2' : z.cell? ⟨w.heap.size, 0, none⟩ = some (.int .i64 j) := by simpa using z2
   have z3' : z.cell? ⟨w.heap.size + 1, 0, none⟩ = some (.int .i64 0) := by simpa using z3
   clear z2 z3
   simp [Leaves, settle, results, Tryz.results60, go_sem, z2', z3']
   exact ⟨sv, xs, w0.heap.size, rfl, Z.out.2.1, Z.out.1, HB0.out.size, Z.out.2.2⟩
def ParD (w : World) (r : Except Nat (List T1 × Nat)) (e : Ending) (w' : World) : Prop := match r with
 | .ok (l, j) => ∃ sv xs, e = .returned (.tuple #[sv, .int .i64 j, .int .i64 0]) ∧ LG w.heap.size w' sv l xs ∧ Below w.heap.size w w'
 | .error k => e = .returned (.tuple #[.slice none 0 0, .int .i64 k, .int .i64 60]) ∧ Below w.heap.size w w'
theorem decls_par {w : World} {A : Option Addr} {L : List PT} (h : RowAt w A L) (c : Nat) {i : Nat} (hi : i ≤ 60000) (df : Bool) {r : Except Nat (List T1 × Nat)}
 (HF0 : ∀ w0 br, TkS w0 br A L → ∀ wx, PInv w0 wx br A c L i → Calls Tryz.prog 62 #[.pointer (some ⟨br, 0, none⟩), .bool df] wx (ListR wx.heap.size w0 wx br A c L r)) :
 Calls Tryz.prog 51 #[.slice A L.length c, .int .i64 i, .bool df] w (ParD w r) := by
 have hb0 : Below w.heap.size w ((w.alloc (.cells #[.bool df] 4)).alloc (.cells #[.slice none 0 0] 36)) := ((Below.refl _ _).alloc nl _).alloc (by rw [World.size_alloc]; exact Nat.le_succ _) _
 have k1 : Blk ((w.alloc (.cells #[.bool df] 4)).alloc (.cells #[.slice none 0 0] 36)) w.heap.size 4 #[.bool df] := (heap_alloc_old _ _ (by rw [World.size_alloc]; exact Nat.lt_succ_self _)).trans (heap_alloc_new w _)
 have k2 : Blk ((w.alloc (.cells #[.bool df] 4)).alloc (.cells #[.slice none 0 0] 36)) (w.heap.size + 1) 36 #[.slice none 0 0] := by
  have h := heap_alloc_new (w.alloc (.cells #[.bool df] 4)) (.cells #[.slice none 0 0] 36)
  rw [World.size_alloc] at h
  exact h
 have D := qh (parseL_any (h.below hb0) c hi k1 k2 HF0)
 have HB0 := qh hb0
 have K2 := qh k2
 have hsz : ((w.alloc (.cells #[.bool df] 4)).alloc (.cells #[.slice none 0 0] 36)).heap.size = w.heap.size + 2 := by simp [World.size_alloc]
 have hmf : ∀ (fn : Fn) (first cap : Array Value) (w : World), (Instr.makeFunc fn first cap).run Tryz.prog w = .ok (.func fn first cap) w := fun _ _ _ _ => rfl
 clear h HF0 hb0 k1 k2
 cases r with
 | error k =>
   go_enter Tryz.func51, Tryz.ntmps51
   go_wp2_with fail
   ((with_reducible refine D.out.mono ?_); rintro e w1 ⟨rfl, hb⟩)
   have kb : Blk w1 (w.heap.size + 1) 36 #[.slice none 0 0] := (hb.block _ (by rw [hsz]; omega)).trans K2.out
   have z0 := kb.cell 0
   have zf := kb.frozen 0
   simp only [List.getElem?_toArray, List.getElem?_cons_zero, List.getElem?_cons_succ] at z0
   have hlt := kb.lt
   have HB1 := qh (HB0.out.trans (hb.mono HB0.out.size))
   clear hb kb
   go_wp2
   have zz := World.cell?_setCell_same w1 ⟨w.heap.size + 1, 0, none⟩ (.slice none 0 0) z0
   refine bodyPost_ret (v := .tuple #[.slice none 0 0, .int .i64 k, .int .i64 60]) (by simp [results, Tryz.results51, go_sem, zz]) rfl ?_
   exact ⟨rfl, HB1.out.setCell (p := ⟨w.heap.size + 1, 0, none⟩) (Nat.le_succ _) _⟩
 | ok x =>
   obtain ⟨x, j⟩ := x
   go_enter Tryz.func51, Tryz.ntmps51
   go_wp2_with fail
   ((with_reducible refine D.out.mono ?_); rintro e w1 ⟨sv, xs, B, rfl, hg, hbk, hB, hr⟩)
   have z0 := hbk.cell 0
   have zf := hbk.frozen 0
   simp only [List.getElem?_toArray, List.getElem?_cons_zero, List.getElem?_cons_succ] at z0
   have hlt := hbk.lt
   have HR := qh (And.intro hg (And.intro hbk (And.intro hB hr)))
   obtain ⟨A8, c8, rfl, _⟩ := hr.form
   clear hg hbk hr
   go_wp2
   have zz := World.cell?_setCell_same w1 ⟨w.heap.size + 1, 0, none⟩ (.slice A8 x.length c8) z0
   refine bodyPost_ret (v := .tuple #[.slice A8 x.length c8, .int .i64 j, .int .i64 0]) (by simp [results, Tryz.results51, go_sem, zz]) rfl ?_
   obtain ⟨hg, hbk, hB, hr⟩ := HR.out
   refine ⟨_, xs, rfl, ?_, ?_⟩
   ·rw [hsz] at hB
    exact (hr.grown (Lx.grown_set w1 (w.heap.size + 1) 0 (.slice A8 x.length c8)) (by omega)).lower (by omega)
   ·exact (HB0.out.grown hg HB0.out.size (fun k e => by injection e with e; omega)).setCell (p := ⟨w.heap.size + 1, 0, none⟩) (Nat.le_succ _) _
theorem Block_any {g : Nat} {w : World} {A : Option Addr} {L : List PT} (h : RowAt w A L) (hgL : L.length < g) (c : Nat) {i : Nat} (hi : i ≤ L.length) : Calls Tryz.prog 50 #[.slice A L.length c, .int .i64 i] w (ParR w (blockF g g L i)) :=
 block_par h c (by have := h.len; omega) fun w0 br ht wx hx => blocks_any ht hgL g i (by omega) hi wx hx
theorem Decls_any {g : Nat} {w : World} {A : Option Addr} {L : List PT} (h : RowAt w A L) (hgL : L.length < g) (c : Nat) {i : Nat} (hi : i ≤ L.length) : Calls Tryz.prog 51 #[.slice A L.length c, .int .i64 i, .bool true] w (ParD w (defF g L i)) :=
 decls_par h c (by have := h.len; omega) true fun w0 br ht wx hx => (def_any ht hgL i hi wx hx).mono fun e w' h => h.1
end De
namespace Un
open Go.RowKit
open Tr (Nd Fo RepS RepN Rep cellsN)
open Lx (Tk noTk Blk run_store_complexL TokAt)
open Fl
open Ex hiding LG new_lg tkOf tkV
open St (TkS g2_max Good2 isNm KG KN new_kg new_0 kid_facts one_ptr sSem sCol sEnd isWd6 ret_ bind_err need_n)
open De (LG new_leaf new_lg namesF sImport sModule run_field0 tkOf tkV KP bind_assoc ParD)
attribute [local go_sem] run_store_complexL run_field0 run_field1 run_field3
theorem isThe_lt2 {L : List PT} {i : Nat} {s : ByteArray} (h : isThe s (tk L i) = true) : i < L.length := by
 rcases Nat.lt_or_ge i L.length with h1 | h1
 ·exact h1
 ·rw [tk_end h1] at h; cases h
structure S1 {β : Type} (w0 w wx : World) (br c : Nat) (A : Option Addr) (L : List PT) (res : Except Nat (β × Nat)) (p : Par β) (j : Nat) : Prop where
 pg : PG w0 w wx br A c L j
 eq : res = p L j
 le : j ≤ L.length
abbrev EK {β : Type} (res : Except Nat (β × Nat)) (w : World) (br : Nat) (K : Ending → World → Prop) : Prop := ∀ k w', Hid (res = .error k) → Hid (w.grownBy w' (some br)) → K (bad k) w'
section
variable {α β γ : Type} {w0 w wx w1 : World} {br c j : Nat} {A : Option Addr} {L : List PT} {res : Except Nat (β × Nat)} {K : Ending → World → Prop}
theorem S1.start {p : Par β} (h : PInv w0 w br A c L j) (hj : j ≤ L.length) (he : res = p L j) : S1 w0 w w br c A L res p j := ⟨PG.start h, he, hj⟩
theorem S1.of {p q : Par β} (S : S1 w0 w wx br c A L res p j) (h : p L j = q L j) : S1 w0 w wx br c A L res q j := ⟨S.pg, S.eq.trans h, S.le⟩
theorem S1.below {p : Par β} (S : S1 w0 w wx br c A L res p j) (hb : Below wx.heap.size wx w1) : S1 w0 w w1 br c A L res p j := ⟨S.pg.below hb, S.eq, S.le⟩
theorem S1.need {p : Par β} {s : ByteArray} (S : S1 w0 w wx br c A L res (needF s p) j) (ht : TkS w0 br A L) (E : EK res w br K)
 (C : ∀ w', Hid (S1 w0 w w' br c A L res p (j + 1)) → Hid (wx.grownBy w' (some br)) → K (.returned (.tuple #[])) w') :
 Calls Tryz.prog 34 #[.pointer (some ⟨br, 0, none⟩), .string s] wx K := by
 have hl := ht.toks.len
 have hj := S.le
 cases hT : isT L j s with
 | false =>
   refine (need_no ht.toks (i := j) (by omega) s _ S.pg.1 hT).mono ?_
   rintro e w' ⟨rfl, hb⟩
   exact E j w' (qh (S.eq.trans (need_n hT))) (qh (grown_trans S.pg.2 hb))
 | true =>
   have hjn := isT_lt hT
   refine (need_ok ht.toks (i := j) (by omega) s _ S.pg.1 hT).mono ?_
   rintro e w' ⟨rfl, hb⟩
   exact C w' (qh ⟨S.pg.trans hb, S.eq.trans (need_y hT), hjn⟩) (qh hb.2)
theorem S1.now {q : PT → Par β} (S : S1 w0 w wx br c A L res (posP q) j) (ht : TkS w0 br A L)
 (C : ∀ k p1 p2 q1 q2 t n w', Hid (tk L j = tkOf k p1 p2 q1 q2 t n) → Hid (S1 w0 w w' br c A L res (q (tkOf k p1 p2 q1 q2 t n)) j) → Hid (wx.grownBy w' (some br)) → K (.returned (tkV k p1 p2 q1 q2 t n)) w') :
 Calls Tryz.prog 21 #[.pointer (some ⟨br, 0, none⟩)] wx K := by
 have hl := ht.toks.len
 have hj := S.le
 obtain ⟨k, p1, p2, q1, q2, t, n, e1, e2⟩ := val_form (tk L j)
 refine (now_any ht.toks (i := j) (by omega) _ S.pg.1).mono ?_
 rintro e w' ⟨rfl, hb⟩
 rw [e2]
 exact C k p1 p2 q1 q2 t n w' (qh e1) (qh ⟨S.pg.below hb, S.eq.trans (by show q (tk L j) L j = _; rw [e1]; rfl), hj⟩) (qh (grown_of_below hb _))
theorem S1.name {a : PT → Par β} {s : ByteArray} (S : S1 w0 w wx br c A L res (tokP (isThe s) a failP) j) (ht : TkS w0 br A L) (E : EK res w br K)
 (C : ∀ k p1 p2 q1 q2 t n w', Hid (S1 w0 w w' br c A L res (a (tkOf k p1 p2 q1 q2 t n)) (j + 1)) → Hid (wx.grownBy w' (some br)) → K (.returned (tkV k p1 p2 q1 q2 t n)) w') :
 Calls Tryz.prog 35 #[.pointer (some ⟨br, 0, none⟩), .string s] wx K := by
 have hl := ht.toks.len
 have hj := S.le
 cases hk : isThe s (tk L j) with
 | true =>
   have hjl := isThe_lt2 hk
   obtain ⟨k, p1, p2, q1, q2, t, n, e1, e2⟩ := val_form (tk L j)
   have D := name_ok ht.toks (i := j) (by omega) s _ S.pg.1 hk
   rw [e2] at D
   refine D.mono ?_
   rintro e w' ⟨rfl, hb⟩
   exact C k p1 p2 q1 q2 t n w' (qh ⟨S.pg.trans hb, S.eq.trans (by show tokP (isThe s) a failP L j = _; rw [tok_y (t := isThe s) hk, e1]; rfl), hjl⟩) (qh hb.2)
 | false =>
   refine (name_no ht.toks (i := j) (by omega) s _ S.pg.1 hk).mono ?_
   rintro e w' ⟨rfl, hb⟩
   exact E j w' (qh (S.eq.trans (tok_n (t := isThe s) hk))) (qh (grown_trans S.pg.2 hb))
theorem S1.doneT {x : T1} {b : Nat} {res : Except Nat (T1 × Nat)} (S : S1 w0 w wx br c A L res (retP x) j) (h : RepS (fun y => w.heap.size ≤ y) wx (.node x.1 x.2 .no) [.pointer (some ⟨b, 0, none⟩)]) : TreeR w.heap.size w0 w br A c L res (.returned (.pointer (some ⟨b, 0, none⟩))) wx := by
 rw [S.eq]
 exact ⟨b, rfl, S.pg.1, S.pg.2, h⟩
theorem S1.errT {res : Except Nat (T1 × Nat)} {k : Nat} (h : res = .error k) (hg : w.grownBy w1 (some br)) (B : Nat) : TreeR B w0 w br A c L res (bad k) w1 := by
 rw [h]; exact ⟨rfl, hg⟩
theorem S1.far {b i' : Nat} {p : Par β} (S : S1 w0 w wx br c A L res p j) (hw : PInv w0 w br A c L i') (hb : w.heap.size ≤ b) (o : Nat) (u : Value) : S1 w0 w (wx.setCell ⟨b, o, none⟩ u) br c A L res p j :=
 ⟨S.pg.far hw hb o u, S.eq, S.le⟩
theorem S1.inc {a : PT → Par β} {b : Par β} {t : PT → Bool} (S : S1 w0 w wx br c A L res (tokP t a b) j) (hT : t (tk L j) = true) (h0 : t noPT = false) : S1 w0 w (wx.setCell ⟨br, 1, none⟩ (.int .i64 (j + 1 : Nat))) br c A L res (a (tk L j)) (j + 1) := by
 refine ⟨S.pg.set_ (j + 1), S.eq.trans (tok_y hT), ?_⟩
 rcases Nat.lt_or_ge j L.length with h | h
 ·exact h
 ·rw [tk_end h, h0] at hT; cases hT
end
def RestR (w0 wB : World) (br : Nat) (A : Option Addr) (c : Nat) (L : List PT) (b : Nat) (d : Nd) (r : Except Nat (List T1 × Nat)) (e : Ending) (w' : World) : Prop := match r with
 | .ok (l, j) => e = .returned (.tuple #[]) ∧ PG w0 wB w' br A c L j ∧ (∃ sv, Tr.Blk w' b 38 (cellsN d sv)) ∧ RepS (fun y => wB.heap.size ≤ y) w' (.node d (forest l) .no) [.pointer (some ⟨b, 0, none⟩)]
 | .error k => e = bad k ∧ wB.grownBy w' (some br)
theorem KG.fill {B0 B b m c' : Nat} {W w1 : World} {d : Nd} {sv : Value} {acc l : List T1} {xs vs : List Value} {A' : Option Addr} (h : KG B0 B W b d sv acc xs) (hB : B0 ≤ B) (hx : RepS (KP B0 b sv) W (forest l) vs) (hm : m = xs.length + vs.length)
 (hown : w1.ownsRow B 31 1 (.slice A' m c') m (xs ++ vs)) (hg : W.grownBy w1 sv.ownBlock) :
 Tr.Blk (w1.setCell ⟨b, 4, none⟩ (.slice A' m c')) b 38 (cellsN d (.slice A' m c')) ∧ RepS (fun y => B0 ≤ y) (w1.setCell ⟨b, 4, none⟩ (.slice A' m c')) (.node d (forest (acc ++ l)) .no) [.pointer (some ⟨b, 0, none⟩)] := by
 obtain ⟨⟨h1, h2, h4⟩, h3, h5⟩ := h
 have hne : sv.ownBlock ≠ some b := Tr.own_blk_ne h2 h1 (by decide)
 have hb1 : Tr.Blk w1 b 38 (cellsN d sv) := h1.grown hg (fun e => hne e.symm)
 have hb2 : Tr.Blk (w1.setCell ⟨b, 4, none⟩ (.slice A' m c')) b 38 (cellsN d (.slice A' m c')) := by
  have := hb1.set_ 4 (.slice A' m c')
  rwa [Tr.cellsN_set] at this
 have hgb : (Value.slice A' m c').ownBlock ≠ some b := Tr.own_blk_ne hown hb1 (by decide)
 have hkp : ∀ {f : Fo} {us : List Value}, RepS (KP B0 b sv) W f us → RepS (fun y => B0 ≤ y) (w1.setCell ⟨b, 4, none⟩ (.slice A' m c')) f us := fun hr =>
  hr.keep (by rw [World.size_setCell]; exact hg.size) (fun y hy hl => by rw [Below.heap_setCell w1 ⟨b, 4, none⟩ _ y hy.2.1]; exact hg.block y hl (fun e => hy.2.2 e.symm)) (fun y hy _ => hy.1)
 have hrow := hown.kept (Tr.setCell_grown w1 ⟨b, 4, none⟩ (.slice A' m c')) (.inr hgb)
 refine ⟨hb2, RepS.mk (base := B) hb2 ?_ (St.rep_app (hkp hx) (hkp h3)) (Nat.le_trans hB h4) (fun g hg => Nat.le_trans hB (hrow.lt g hg).1)⟩
 rw [List.length_append, ← hm]
 exact hrow
theorem wpList_pushF {w0 w wq : World} {br c i' j : Nat} {A : Option Addr} {L : List PT} {ops : Array Oper} {rest : List Oper} {o : Oper} {a : Act} {Q : Exit → Act → World → Prop} (hgd : o.guard = none) (s x : Operand) (ho : o.op = .call { callee := .builtin .append, args := #[s, x], argTypes := #[36, 36] })
 {b m c' : Nat} {d : Nd} {sv : Value} {acc l : List T1} {xs vs : List Value} {A' : Option Addr} {B' : Nat} (G : PG w0 w wq br A c L j) (H0 : PInv w0 w br A c L i')
 (h : KG w.heap.size w.heap.size wq b d sv acc xs) (hl : acc.length ≤ 1000000) (hx : RepS (KP w.heap.size b sv) wq (forest l) vs) (hr : Reads wq B' 1 A' m vs) (hm : vs.length = m) (hml : m ≤ 1000000)
 (hs : a.eval s = sv) (hxe : a.eval x = .slice A' m c')
 (hK : ∀ A2 c2 w', w'.cell? ⟨b, 4, none⟩ = some sv → w'.frozen? ⟨b, 4, none⟩ = false → b < w'.heap.size → Hid (PG w0 w (w'.setCell ⟨b, 4, none⟩ (.slice A2 (acc.length + m) c2)) br A c L j) →
   Hid (Tr.Blk (w'.setCell ⟨b, 4, none⟩ (.slice A2 (acc.length + m) c2)) b 38 (cellsN d (.slice A2 (acc.length + m) c2)) ∧ RepS (fun y => w.heap.size ≤ y) (w'.setCell ⟨b, 4, none⟩ (.slice A2 (acc.length + m) c2)) (.node d (forest (acc ++ l)) .no) [.pointer (some ⟨b, 0, none⟩)]) → wpList Tryz.prog ops Q rest (a.put o.dst (.slice A2 (acc.length + m) c2)) w') :
 wpList Tryz.prog ops Q (o :: rest) a wq := by
 obtain ⟨i0, hi0, hz0, hz1, hz2⟩ := info_parts infoN
 have hlen := h.len
 have hone : ∀ u ∈ vs, u.oneCell' = true := fun u hu => De.kids_one hx u hu
 refine wpList_app wq hgd s x _ ho w.heap.size 31 i0 _ 1 8 Tryz.underlying36 hi0 hz0 hz1 hz2 rfl (by omega) sv xs.length xs hs h.kn.own B' A' m c' vs hxe hr hone (by unfold maxLen; omega) (by omega) (Nat.le_trans h.kn.low (Nat.le_of_lt h.kn.blk.lt)) ?_
 intro A2 c2 w' hown hg
 obtain ⟨s4, s4f, hb5⟩ := KN.after h.kn hg
 have hF := KG.fill h nl hx (by rw [hm]) hown hg
 rw [← hlen] at hK
 exact hK A2 c2 w' s4 s4f hb5 (qh ((G.gfar H0 hg (fun k e => (h.kn.own.lt _ e).1)).far H0 h.kn.low 4 _)) (qh hF)
theorem rest_blk {bl : Par T1} {df : Par (List T1)} {w0 wB : World} {br c iB : Nat} {A : Option Addr} {L : List PT} (ht : TkS w0 br A L) (hwB : PInv w0 wB br A c L iB) (i : Nat) (hi : i ≤ L.length) (w : World) (hG : PG w0 wB w br A c L i)
 {b : Nat} {p : Nat × Nat} {nm : ByteArray} {kind : Nat} {sv : Value} {acc : List T1} {xs : List Value} (hK : KG wB.heap.size wB.heap.size w b ⟨kind, p, nm, 0⟩ sv acc xs) (hac : acc.length ≤ 900000) (hk : kind ≠ 50)
 (HBk : ∀ wx, RowAt wx A L → Calls Tryz.prog 50 #[.slice A L.length c, .int .i64 i] wx (ParR wx (bl L i))) :
 Calls Tryz.prog 37 #[.pointer (some ⟨br, 0, none⟩), .pointer (some ⟨b, 0, none⟩)] w (RestR w0 wB br A c L b ⟨kind, p, nm, 0⟩ (restF bl df kind acc L i)) := by
 have hbr := hwB.row.lt
 have HB0 := qh hwB
 have HT := qh ht
 have hbo : br < w.heap.size := hG.1.row.lt
 have hwBs : wB.heap.size ≤ w.heap.size := hG.2.size
 have m0 : w.cell? ⟨br, 0, none⟩ = some (.slice A L.length c) := hG.1.row.cell 0
 obtain ⟨m1, f1, hlt⟩ := hG.1.at_
 have z0 : w.cell? ⟨b, 0, none⟩ = some (.int .u8 kind) := hK.kn.blk.cell 0
 obtain ⟨m4, m4f, hbl4⟩ := hK.kn.facts
 have hnb : ¬ b = br := by have := hK.kn.low; omega
 have hnb2 : ¬ br = b := fun e => hnb e.symm
 have H := qh hG
 have HK := qh hK
 have x0 : (0 : Int) ≤ (i : Int) := by omega
 have d1 := HBk w.drew (row_at ht (hG.1.below ((Below.refl _ _).drew)))
 have hk5 : ((kind : Int) != 50) = true := by rw [bne_iff_ne]; omega
 have HX_ := qh HBk
 clear HBk
 clear hG hK ht hwB HX_
 cases hr : bl L i with
 | error k9 =>
   rw [hr] at d1
   have D1 := qh d1
   have HS := qh (show restF bl df kind acc L i = .error k9 from by unfold restF; rw [if_neg hk, bind_err hr])
   clear d1 hr
   go_enter Tryz.func37, Tryz.ntmps37
   go_wp2
   go_region_law (first
    | (go_simp; go_at_call 50; (with_reducible refine D1.out.mono ?_); rintro e x ⟨rfl, hb⟩; have HX := qh (H.out.below ((Below.refl _ _).drew.trans (hb.mono nl))); clear hb))
   all_goals
    go_wp2
    refine ⟨rfl, ?_⟩
    rw [HS.out]
    exact ⟨rfl, HX.out.2⟩
 | ok r =>
   obtain ⟨y, j⟩ := r
   rw [hr] at d1
   have D1 := qh d1
   have HS := qh (show restF bl df kind acc L i = .ok (acc ++ [y], j) from by unfold restF; rw [if_neg hk, bind_ok hr]; rfl)
   clear d1
   go_enter Tryz.func37, Tryz.ntmps37
   go_wp2
   go_region_law (first
    | (go_simp; go_at_call 50; (with_reducible refine D1.out.mono ?_); rintro e x ⟨by_, rfl, hr2, hb⟩; have HR := qh (show RepS (fun y => w.heap.size ≤ y) x (forest [y]) [.pointer (some ⟨by_, 0, none⟩)] from hr2); clear hr2; have hbb := (Below.refl _ _).drew.trans (hb.mono nl); have HX := qh (H.out.below hbb); have HKX := qh (HK.out.below hbb); clear hb hbb; obtain ⟨z1, zf1, hzl⟩ := HX.out.1.at_; obtain ⟨t4, t4f, hbx⟩ := HKX.out.kn.facts))
   all_goals
    have HW := qh (HX.out.set_ j)
    have HGS := qh (Lx.grown_set x br 1 (.int .i64 j))
    have HKX := qh (HKX.out.grown HGS.out hbr nl)
    have HY := qh (HK.out.new (HR.out.keep HGS.out.size (fun y hy hl => HGS.out.block y hl (fun e => by injection e with e; omega)) (fun y h _ => h)) nl)
    have HKY := qh (HKX.out.below ((Below.refl _ _).alloc nl (.cells #[.pointer (some ⟨by_, 0, none⟩)] 31)))
    have HYY := qh (HY.out.below ((Below.refl _ _).alloc nl (.cells #[.pointer (some ⟨by_, 0, none⟩)] 31)))
    have HWY := qh (HW.out.alloc (.cells #[.pointer (some ⟨by_, 0, none⟩)] 31))
    have HRD := qh (by have := reads_lit (x.setCell ⟨br, 1, none⟩ (.int .i64 j)) #[.pointer (some ⟨by_, 0, none⟩)] 31; rw [World.size_setCell] at this; exact this)
    clear HX HR HKX HY HW
    go_wp2_with (at_builtin; refine wpList_pushF rfl _ _ rfl (l := [y]) HWY.out HB0.out HKY.out (by omega) HYY.out HRD.out (by rfl) (by simp) rfl rfl ?_; intro A2 c2 w6 s4 s4f hb5 S HF)
    go_wp2
    go_end0
    rw [HS.out]
    exact ⟨rfl, S.out, ⟨_, HF.out.1⟩, HF.out.2⟩
theorem rest_def {bl : Par T1} {df : Par (List T1)} {w0 wB : World} {br c iB : Nat} {A : Option Addr} {L : List PT} (ht : TkS w0 br A L) (hwB : PInv w0 wB br A c L iB) (i : Nat) (hi : i ≤ L.length) (w : World) (hG : PG w0 wB w br A c L i)
 {b : Nat} {p : Nat × Nat} {nm : ByteArray} {kind : Nat} {sv : Value} {acc : List T1} {xs : List Value} (hK : KG wB.heap.size wB.heap.size w b ⟨kind, p, nm, 0⟩ sv acc xs) (hac : acc.length ≤ 900000) (hk : kind = 50)
 (HDf : ∀ wx, RowAt wx A L → Calls Tryz.prog 51 #[.slice A L.length c, .int .i64 i, .bool true] wx (ParD wx (df L i))) (gdf : Good2 df) (hdl : ∀ l j, df L i = .ok (l, j) → l.length ≤ 100000) :
 Calls Tryz.prog 37 #[.pointer (some ⟨br, 0, none⟩), .pointer (some ⟨b, 0, none⟩)] w (RestR w0 wB br A c L b ⟨kind, p, nm, 0⟩ (restF bl df kind acc L i)) := by
 have hbr := hwB.row.lt
 have HB0 := qh hwB
 have HT := qh ht
 have hbo : br < w.heap.size := hG.1.row.lt
 have hwBs : wB.heap.size ≤ w.heap.size := hG.2.size
 have m0 : w.cell? ⟨br, 0, none⟩ = some (.slice A L.length c) := hG.1.row.cell 0
 obtain ⟨m1, f1, hlt⟩ := hG.1.at_
 have z0 : w.cell? ⟨b, 0, none⟩ = some (.int .u8 kind) := hK.kn.blk.cell 0
 obtain ⟨m4, m4f, hbl4⟩ := hK.kn.facts
 have hnb : ¬ b = br := by have := hK.kn.low; omega
 have hnb2 : ¬ br = b := fun e => hnb e.symm
 have H := qh hG
 have HK := qh hK
 have x0 : (0 : Int) ≤ (i : Int) := by omega
 have d1 := HDf w.drew (row_at ht (hG.1.below ((Below.refl _ _).drew)))
 subst hk
 have hdl2 := hdl
 have HX_ := qh HDf
 clear HDf
 clear hG hK ht hwB HX_
 cases hr : df L i with
 | error k9 =>
   rw [hr] at d1
   have D1 := qh d1
   have HS := qh (show restF bl df 50 acc L i = .error k9 from by unfold restF; rw [if_pos rfl, bind_err hr])
   clear d1 hr
   go_enter Tryz.func37, Tryz.ntmps37
   go_wp2
   go_region_law (first
    | (go_simp; go_at_call 51; (with_reducible refine D1.out.mono ?_); rintro e x ⟨rfl, hb⟩; have HX := qh (H.out.below ((Below.refl _ _).drew.trans (hb.mono nl))); clear hb))
   all_goals
    go_wp2
    refine ⟨rfl, ?_⟩
    rw [HS.out]
    exact ⟨rfl, HX.out.2⟩
 | ok r =>
   obtain ⟨y, j⟩ := r
   rw [hr] at d1
   have hyl := hdl2 _ _ hr
   have D1 := qh d1
   have HS := qh (show restF bl df 50 acc L i = needF sEnd (retP (acc ++ y)) L j from by unfold restF; rw [if_pos rfl, bind_ok hr])
   clear d1
   go_enter Tryz.func37, Tryz.ntmps37
   go_wp2
   go_region_law (first
    | (go_simp; go_at_call 51; (with_reducible refine D1.out.mono ?_); rintro e x ⟨svl, vsl, rfl, hl, hb⟩; obtain ⟨A', c', rfl, hrd⟩ := hl.form; have HL := qh (show LG w.heap.size x _ y vsl from hl); have HRD := qh hrd; clear hl hrd; have hbb := (Below.refl _ _).drew.trans (hb.mono nl); have HX := qh (H.out.below hbb); have HKX := qh (HK.out.below hbb); clear hb hbb; obtain ⟨z1, zf1, hzl⟩ := HX.out.1.at_; obtain ⟨t4, t4f, hbx⟩ := HKX.out.kn.facts))
   all_goals
    have HW := qh (HX.out.set_ j)
    have HGS := qh (Lx.grown_set x br 1 (.int .i64 j))
    have HLL := qh HL.out.len
    have HY := qh (HK.out.new (HL.out.rep.more (S' := fun y => w.heap.size ≤ y) fun y hy _ => hy.1) nl)
    have HY := qh (HY.out.keep HGS.out.size (fun y hy hl => HGS.out.block y hl (fun e => by injection e with e; have := hy.1; omega)) (fun y h _ => h))
    have HKX := qh (HKX.out.grown HGS.out hbr nl)
    have HRD := qh (show Reads (x.setCell ⟨br, 1, none⟩ (.int .i64 j)) _ 1 _ y.length vsl from Reads.of_own (by have := HL.out.own.kept HGS.out (.inr fun e => by have := (HL.out.own.lt _ e).1; omega); rwa [HLL.out] at this))
    clear HX HL
    go_wp2_with (at_builtin; refine wpList_pushF rfl _ _ rfl (l := y) HW.out HB0.out HKX.out (by omega) HY.out HRD.out HLL.out (by omega) rfl rfl ?_; intro A2 c2 w6 s4 s4f hb5 S HF)
    have hjl := (g2_max gdf L i).2.1 hi
    rw [hr] at hjl
    simp only [posE] at hjl
    have S := qh (⟨S.out, HS.out, hjl⟩ : S1 w0 wB _ br c A L (restF bl df 50 acc L i) (needF sEnd (retP (acc ++ y))) j)
    clear hr hjl HS
    go_wp2_with fail
    (with_reducible refine S.out.need HT.out ?_ ?_)
    ·intro k w1 h hg; go_wp2; refine ⟨rfl, ?_⟩; rw [h.out]; exact ⟨rfl, hg.out⟩
    clear S
    intro wx S hg
    have HF := qh (And.intro (HF.out.1.grown hg.out (by intro e; injection e with e; omega)) (repS_grown HF.out.2 hg.out hbr))
    go_wp2
    go_end0
    rw [S.out.eq]
    exact ⟨rfl, S.out.pg, ⟨_, HF.out.1⟩, HF.out.2⟩
end Un
namespace De
open Tr (Nd Fo)
open Lx (Tk noTk)
open Ex
open St (Good2 isNm bind_ok bind_err tok_y tok_n isWd6 sSem)
section
variable {L : List PT} {i j : Nat} {l acc : List T1}
theorem tok_lt {α : Type} {t : PT → Bool} {a : PT → Par α} (ha : ∀ x, Good2 (a x)) {x : α} (h : tokP t a failP L i = .ok (x, j)) : i < j := by
 by_cases ht : t (tk L i) = true
 ·rw [tok_y ht] at h
  have := (ha (tk L i)).mono L (i + 1)
  rw [h] at this
  exact this
 ·rw [tok_n (by simpa using ht)] at h
  cases h
theorem names_lt {g : Nat} (h : namesF g [] L i = .ok (l, j)) : i < j := by
 cases g with
 | zero => cases h
 | succ g =>
   rw [namesF] at h
   exact tok_lt (fun t => St.g2_tok (tT_no _) (fun _ => g2_names g _) (St.g2_ret _)) h
theorem var_lt {g : Nat} {ty : Par T1} (hty : Good2 ty) {x : T1} (h : varF g ty L i = .ok (x, j)) : i < j := by
 unfold varF posP at h
 dsimp only at h
 cases e : namesF g [] L i with
 | error k => rw [bind_err e] at h; cases h
 | ok r =>
   obtain ⟨y, m⟩ := r
   rw [bind_ok e] at h
   have h1 := names_lt e
   have h2 := (St.g2_need (s := St.sCol) (St.g2_bind hty fun x => St.g2_ret (mk 42 (tk L i).2.1 sNil 0 (y ++ [x])))).mono L m
   rw [h] at h2
   exact Nat.lt_of_lt_of_le h1 h2
theorem sec_len {q : Par T1} (hq : ∀ i x j, q L i = .ok (x, j) → i < j) : ∀ {f : Nat} {acc : List T1} {i : Nat} {l : List T1} {j : Nat}, secR q f acc L i = .ok (l, j) → l.length + i ≤ acc.length + j
 | 0, _, _, _, _, h => by cases h
 | f + 1, acc, i, l, j, h => by
   rw [secR] at h
   unfold posP at h
   dsimp only at h
   by_cases hk : isNm (tk L i) = true
   ·rw [if_pos hk] at h
    cases e : q L i with
    | error k => rw [bind_err e] at h; cases h
    | ok r =>
      obtain ⟨y, m⟩ := r
      rw [bind_ok e] at h
      have h1 := hq _ _ _ e
      unfold needF tokP at h
      dsimp only at h
      split at h
      ·have := sec_len hq h
       simp only [List.length_append, List.length_cons, List.length_nil] at this
       omega
      ·cases h
   ·rw [if_neg hk] at h
    injection h with h; injection h with h1 h2; subst h1 h2
    exact Nat.le_refl _
theorem bind_inv2 {α β : Type} {p : Par α} {q : α → Par β} {x : β} (h : bindP p q L i = .ok (x, j)) : ∃ y m, p L i = .ok (y, m) ∧ q y L m = .ok (x, j) := by
 unfold bindP at h
 cases hp : p L i with
 | error k => rw [hp] at h; cases h
 | ok r => rw [hp] at h; exact ⟨r.1, r.2, rfl, h⟩
theorem decls_len {g : Nat} {ty bl : Par T1} (hty : Good2 ty) (hbl : Good2 bl) {df : Bool} : ∀ {f : Nat} {acc : List T1} {i : Nat} {l : List T1} {j : Nat}, declsR g ty bl df f acc L i = .ok (l, j) → l.length + i ≤ acc.length + j
 | 0, _, _, _, _, h => by cases h
 | f + 1, acc, i, l, j, h => by
   have sec : ∀ (q : Par T1), (∀ i x j, q L i = .ok (x, j) → i < j) → bindP (secR q g acc) (declsR g ty bl df f) L (i + 1) = .ok (l, j) → l.length + i ≤ acc.length + j := fun q hq h => by
    obtain ⟨y, m, h1, h2⟩ := bind_inv2 h
    have a1 := sec_len hq h1
    have a2 := decls_len hty hbl h2
    omega
   have one : ∀ (q : Par T1), (∀ x j, q L i = .ok (x, j) → i < j) → bindP q (fun x => declsR g ty bl df f (acc ++ [x])) L i = .ok (l, j) → l.length + i ≤ acc.length + j := fun q hq h => by
    obtain ⟨y, m, h1, h2⟩ := bind_inv2 h
    have a1 := hq _ _ h1
    have a2 := decls_len hty hbl h2
    simp only [List.length_append, List.length_cons, List.length_nil] at a2
    omega
   rw [declsR] at h
   by_cases h1 : isWd6 sConst (tk L i) = true
   ·rw [tok_y h1] at h
    exact sec _ (fun i x j h => tok_lt (fun t => St.g2_need (St.g2_bind St.g2_expr fun x => St.g2_ret _)) h) h
   rw [tok_n (by simpa using h1)] at h
   by_cases h2 : isWd6 sType (tk L i) = true
   ·rw [tok_y h2] at h
    exact sec _ (fun i x j h => tok_lt (fun t => St.g2_pos fun u => g2_if (St.g2_ret _) (St.g2_need (St.g2_bind hty fun x => St.g2_ret _))) h) h
   rw [tok_n (by simpa using h2)] at h
   by_cases h3 : isWd6 sVar (tk L i) = true
   ·rw [tok_y h3] at h
    exact sec _ (fun i x j h => var_lt hty h) h
   rw [tok_n (by simpa using h3)] at h
   unfold posP at h
   dsimp only at h
   by_cases h4 : tT sProc (tk L i) = true
   ·rw [if_pos h4] at h
    exact one _ (fun x j h => proc_lt hbl _ x j h) h
   rw [if_neg h4] at h
   by_cases h5 : (tT sModule (tk L i) && !df) = true
   ·rw [if_pos h5] at h
    exact one _ (fun x j h => mod_lt hbl _ x j h) h
   rw [if_neg h5] at h
   injection h with h; injection h with h1 h2; subst h1 h2
   exact Nat.le_refl _
theorem def_len {g : Nat} (hi : i ≤ L.length) (h : defF g L i = .ok (l, j)) : l.length ≤ L.length := by
 have h1 := decls_len (g2_typF g) St.g2_fail h
 have h2 := (St.g2_max (g2_defF (g := g)) L i).2.1 hi
 rw [h] at h2
 simp only [posE, List.length_nil] at h1 h2
 omega
end
end De
end Go.Proofs.YtkemhmfdooghkaaGreatDoor
