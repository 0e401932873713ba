/- The walk of expr, out of factor's contract. -/
import Derived.Test.YtecmjhohniipoaaE15
import Derived.Laws.EntriesVeiled
set_option linter.unusedSimpArgs false
set_option linter.unusedVariables false
namespace Go.Proofs.Ytecmjhohniipoaa.Ex
open Go.RowKit
open Tr (Nd Fo RepS RepN Rep)
open Lx (Tk noTk Blk run_store_complexL TokAt)
open Fl
attribute [local go_sem] run_store_complexL run_field1 run_field3

theorem ins_0_0 (W : World) (m : Nat) (hm : W.heap.size = m) : (Instr.mapUpdate 104 (.map (some m)) (.string ⟨#[61]⟩) (.bool true)).run Try.prog (W.alloc (.map #[] 0)) = .ok () (W.alloc (mapO (trues [⟨#[61]⟩]))) :=
  run_ins Try.underlying104 Try.underlying9 (trues []) (.string ⟨#[61]⟩) (.bool true) (by simp [MapKept.IsKey]) ((find_trues _ _ 0 0).2 (by decide)) W m hm
theorem ins_0_1 (W : World) (m : Nat) (hm : W.heap.size = m) : (Instr.mapUpdate 104 (.map (some m)) (.string ⟨#[35]⟩) (.bool true)).run Try.prog (W.alloc (mapO (trues [⟨#[61]⟩]))) = .ok () (W.alloc (mapO (trues [⟨#[61]⟩, ⟨#[35]⟩]))) :=
  run_ins Try.underlying104 Try.underlying9 (trues [⟨#[61]⟩]) (.string ⟨#[35]⟩) (.bool true) (by simp [MapKept.IsKey]) ((find_trues _ _ 0 0).2 (by decide)) W m hm
theorem ins_0_2 (W : World) (m : Nat) (hm : W.heap.size = m) : (Instr.mapUpdate 104 (.map (some m)) (.string ⟨#[60]⟩) (.bool true)).run Try.prog (W.alloc (mapO (trues [⟨#[61]⟩, ⟨#[35]⟩]))) = .ok () (W.alloc (mapO (trues [⟨#[61]⟩, ⟨#[35]⟩, ⟨#[60]⟩]))) :=
  run_ins Try.underlying104 Try.underlying9 (trues [⟨#[61]⟩, ⟨#[35]⟩]) (.string ⟨#[60]⟩) (.bool true) (by simp [MapKept.IsKey]) ((find_trues _ _ 0 0).2 (by decide)) W m hm
theorem ins_0_3 (W : World) (m : Nat) (hm : W.heap.size = m) : (Instr.mapUpdate 104 (.map (some m)) (.string ⟨#[60, 61]⟩) (.bool true)).run Try.prog (W.alloc (mapO (trues [⟨#[61]⟩, ⟨#[35]⟩, ⟨#[60]⟩]))) = .ok () (W.alloc (mapO (trues [⟨#[61]⟩, ⟨#[35]⟩, ⟨#[60]⟩, ⟨#[60, 61]⟩]))) :=
  run_ins Try.underlying104 Try.underlying9 (trues [⟨#[61]⟩, ⟨#[35]⟩, ⟨#[60]⟩]) (.string ⟨#[60, 61]⟩) (.bool true) (by simp [MapKept.IsKey]) ((find_trues _ _ 0 0).2 (by decide)) W m hm
theorem ins_0_4 (W : World) (m : Nat) (hm : W.heap.size = m) : (Instr.mapUpdate 104 (.map (some m)) (.string ⟨#[62]⟩) (.bool true)).run Try.prog (W.alloc (mapO (trues [⟨#[61]⟩, ⟨#[35]⟩, ⟨#[60]⟩, ⟨#[60, 61]⟩]))) = .ok () (W.alloc (mapO (trues [⟨#[61]⟩, ⟨#[35]⟩, ⟨#[60]⟩, ⟨#[60, 61]⟩, ⟨#[62]⟩]))) :=
  run_ins Try.underlying104 Try.underlying9 (trues [⟨#[61]⟩, ⟨#[35]⟩, ⟨#[60]⟩, ⟨#[60, 61]⟩]) (.string ⟨#[62]⟩) (.bool true) (by simp [MapKept.IsKey]) ((find_trues _ _ 0 0).2 (by decide)) W m hm
theorem ins_0_5 (W : World) (m : Nat) (hm : W.heap.size = m) : (Instr.mapUpdate 104 (.map (some m)) (.string ⟨#[62, 61]⟩) (.bool true)).run Try.prog (W.alloc (mapO (trues [⟨#[61]⟩, ⟨#[35]⟩, ⟨#[60]⟩, ⟨#[60, 61]⟩, ⟨#[62]⟩]))) = .ok () (W.alloc (mapO (trues [⟨#[61]⟩, ⟨#[35]⟩, ⟨#[60]⟩, ⟨#[60, 61]⟩, ⟨#[62]⟩, ⟨#[62, 61]⟩]))) :=
  run_ins Try.underlying104 Try.underlying9 (trues [⟨#[61]⟩, ⟨#[35]⟩, ⟨#[60]⟩, ⟨#[60, 61]⟩, ⟨#[62]⟩]) (.string ⟨#[62, 61]⟩) (.bool true) (by simp [MapKept.IsKey]) ((find_trues _ _ 0 0).2 (by decide)) W m hm
theorem ins_0_6 (W : World) (m : Nat) (hm : W.heap.size = m) : (Instr.mapUpdate 104 (.map (some m)) (.string ⟨#[73, 78]⟩) (.bool true)).run Try.prog (W.alloc (mapO (trues [⟨#[61]⟩, ⟨#[35]⟩, ⟨#[60]⟩, ⟨#[60, 61]⟩, ⟨#[62]⟩, ⟨#[62, 61]⟩]))) = .ok () (W.alloc (mapO (trues [⟨#[61]⟩, ⟨#[35]⟩, ⟨#[60]⟩, ⟨#[60, 61]⟩, ⟨#[62]⟩, ⟨#[62, 61]⟩, ⟨#[73, 78]⟩]))) :=
  run_ins Try.underlying104 Try.underlying9 (trues [⟨#[61]⟩, ⟨#[35]⟩, ⟨#[60]⟩, ⟨#[60, 61]⟩, ⟨#[62]⟩, ⟨#[62, 61]⟩]) (.string ⟨#[73, 78]⟩) (.bool true) (by simp [MapKept.IsKey]) ((find_trues _ _ 0 0).2 (by decide)) W m hm
theorem ins_1_0 (W : World) (m : Nat) (hm : W.heap.size = m) : (Instr.mapUpdate 104 (.map (some m)) (.string ⟨#[43]⟩) (.bool true)).run Try.prog (W.alloc (.map #[] 0)) = .ok () (W.alloc (mapO (trues [⟨#[43]⟩]))) :=
  run_ins Try.underlying104 Try.underlying9 (trues []) (.string ⟨#[43]⟩) (.bool true) (by simp [MapKept.IsKey]) ((find_trues _ _ 0 0).2 (by decide)) W m hm
theorem ins_1_1 (W : World) (m : Nat) (hm : W.heap.size = m) : (Instr.mapUpdate 104 (.map (some m)) (.string ⟨#[45]⟩) (.bool true)).run Try.prog (W.alloc (mapO (trues [⟨#[43]⟩]))) = .ok () (W.alloc (mapO (trues [⟨#[43]⟩, ⟨#[45]⟩]))) :=
  run_ins Try.underlying104 Try.underlying9 (trues [⟨#[43]⟩]) (.string ⟨#[45]⟩) (.bool true) (by simp [MapKept.IsKey]) ((find_trues _ _ 0 0).2 (by decide)) W m hm
theorem ins_1_2 (W : World) (m : Nat) (hm : W.heap.size = m) : (Instr.mapUpdate 104 (.map (some m)) (.string ⟨#[79, 82]⟩) (.bool true)).run Try.prog (W.alloc (mapO (trues [⟨#[43]⟩, ⟨#[45]⟩]))) = .ok () (W.alloc (mapO (trues [⟨#[43]⟩, ⟨#[45]⟩, ⟨#[79, 82]⟩]))) :=
  run_ins Try.underlying104 Try.underlying9 (trues [⟨#[43]⟩, ⟨#[45]⟩]) (.string ⟨#[79, 82]⟩) (.bool true) (by simp [MapKept.IsKey]) ((find_trues _ _ 0 0).2 (by decide)) W m hm
theorem ins_2_0 (W : World) (m : Nat) (hm : W.heap.size = m) : (Instr.mapUpdate 104 (.map (some m)) (.string ⟨#[42]⟩) (.bool true)).run Try.prog (W.alloc (.map #[] 0)) = .ok () (W.alloc (mapO (trues [⟨#[42]⟩]))) :=
  run_ins Try.underlying104 Try.underlying9 (trues []) (.string ⟨#[42]⟩) (.bool true) (by simp [MapKept.IsKey]) ((find_trues _ _ 0 0).2 (by decide)) W m hm
theorem ins_2_1 (W : World) (m : Nat) (hm : W.heap.size = m) : (Instr.mapUpdate 104 (.map (some m)) (.string ⟨#[47]⟩) (.bool true)).run Try.prog (W.alloc (mapO (trues [⟨#[42]⟩]))) = .ok () (W.alloc (mapO (trues [⟨#[42]⟩, ⟨#[47]⟩]))) :=
  run_ins Try.underlying104 Try.underlying9 (trues [⟨#[42]⟩]) (.string ⟨#[47]⟩) (.bool true) (by simp [MapKept.IsKey]) ((find_trues _ _ 0 0).2 (by decide)) W m hm
theorem ins_2_2 (W : World) (m : Nat) (hm : W.heap.size = m) : (Instr.mapUpdate 104 (.map (some m)) (.string ⟨#[68, 73, 86]⟩) (.bool true)).run Try.prog (W.alloc (mapO (trues [⟨#[42]⟩, ⟨#[47]⟩]))) = .ok () (W.alloc (mapO (trues [⟨#[42]⟩, ⟨#[47]⟩, ⟨#[68, 73, 86]⟩]))) :=
  run_ins Try.underlying104 Try.underlying9 (trues [⟨#[42]⟩, ⟨#[47]⟩]) (.string ⟨#[68, 73, 86]⟩) (.bool true) (by simp [MapKept.IsKey]) ((find_trues _ _ 0 0).2 (by decide)) W m hm
theorem ins_2_3 (W : World) (m : Nat) (hm : W.heap.size = m) : (Instr.mapUpdate 104 (.map (some m)) (.string ⟨#[77, 79, 68]⟩) (.bool true)).run Try.prog (W.alloc (mapO (trues [⟨#[42]⟩, ⟨#[47]⟩, ⟨#[68, 73, 86]⟩]))) = .ok () (W.alloc (mapO (trues [⟨#[42]⟩, ⟨#[47]⟩, ⟨#[68, 73, 86]⟩, ⟨#[77, 79, 68]⟩]))) :=
  run_ins Try.underlying104 Try.underlying9 (trues [⟨#[42]⟩, ⟨#[47]⟩, ⟨#[68, 73, 86]⟩]) (.string ⟨#[77, 79, 68]⟩) (.bool true) (by simp [MapKept.IsKey]) ((find_trues _ _ 0 0).2 (by decide)) W m hm
theorem ins_2_4 (W : World) (m : Nat) (hm : W.heap.size = m) : (Instr.mapUpdate 104 (.map (some m)) (.string ⟨#[65, 78, 68]⟩) (.bool true)).run Try.prog (W.alloc (mapO (trues [⟨#[42]⟩, ⟨#[47]⟩, ⟨#[68, 73, 86]⟩, ⟨#[77, 79, 68]⟩]))) = .ok () (W.alloc (mapO (trues [⟨#[42]⟩, ⟨#[47]⟩, ⟨#[68, 73, 86]⟩, ⟨#[77, 79, 68]⟩, ⟨#[65, 78, 68]⟩]))) :=
  run_ins Try.underlying104 Try.underlying9 (trues [⟨#[42]⟩, ⟨#[47]⟩, ⟨#[68, 73, 86]⟩, ⟨#[77, 79, 68]⟩]) (.string ⟨#[65, 78, 68]⟩) (.bool true) (by simp [MapKept.IsKey]) ((find_trues _ _ 0 0).2 (by decide)) W m hm
theorem lv_made (w : World) (br : Nat) (hbr : br < w.heap.size) : Lv (((((((w.alloc (.cells #[.pointer (some ⟨br, 0, none⟩)] 95)).alloc (mapO (trues [⟨#[61]⟩, ⟨#[35]⟩, ⟨#[60]⟩, ⟨#[60, 61]⟩, ⟨#[62]⟩, ⟨#[62, 61]⟩, ⟨#[73, 78]⟩]))).alloc (mapO (trues [⟨#[43]⟩, ⟨#[45]⟩, ⟨#[79, 82]⟩]))).alloc (mapO (trues [⟨#[42]⟩, ⟨#[47]⟩, ⟨#[68, 73, 86]⟩, ⟨#[77, 79, 68]⟩, ⟨#[65, 78, 68]⟩]))).alloc (.cells #[.map (some (w.heap.size + 1)), .map (some (w.heap.size + 1 + 1)), .map (some (w.heap.size + 1 + 1 + 1))] 104)).alloc (.cells #[.slice (some ⟨w.heap.size + 1 + 1 + 1 + 1, 0, none⟩) 3 3] 105)).alloc (.cells #[.func (.func 94) #[] #[.pointer (some ⟨w.heap.size + 1 + 1 + 1 + 1 + 1, 0, none⟩), .pointer (some ⟨w.heap.size, 0, none⟩), .pointer (some ⟨w.heap.size + 1 + 1 + 1 + 1 + 1 + 1, 0, none⟩)]] 106))
    (w.heap.size + 1 + 1 + 1 + 1 + 1) (w.heap.size + 1 + 1 + 1 + 1) (w.heap.size + 1) (w.heap.size + 1 + 1) (w.heap.size + 1 + 1 + 1) w.heap.size (w.heap.size + 1 + 1 + 1 + 1 + 1 + 1) br := by
  have hn : ∀ (W : World) (o : Obj) (m : Nat), W.heap.size = m → (W.alloc o).heap[m]? = some o := fun W o m h => by rw [← h]; exact heap_alloc_new W o
  have ho : ∀ (W : World) (o o' : Obj) (m : Nat), W.heap[m]? = some o' → (W.alloc o).heap[m]? = some o' := fun W o o' m h => (Below.heap_alloc W o m (obj_lt h)).trans h
  refine ⟨?_, ?_, ?_, ?_, ?_, ?_, ?_, by omega⟩
  · exact ho _ _ _ _ (hn _ _ _ (by simp [World.size_alloc]))
  · exact ho _ _ _ _ (ho _ _ _ _ (hn _ _ _ (by simp [World.size_alloc])))
  · exact ho _ _ _ _ (ho _ _ _ _ (ho _ _ _ _ (ho _ _ _ _ (ho _ _ _ _ (hn _ _ _ (by simp [World.size_alloc]))))))
  · exact ho _ _ _ _ (ho _ _ _ _ (ho _ _ _ _ (ho _ _ _ _ (hn _ _ _ (by simp [World.size_alloc])))))
  · exact ho _ _ _ _ (ho _ _ _ _ (ho _ _ _ _ (hn _ _ _ (by simp [World.size_alloc]))))
  · exact ho _ _ _ _ (ho _ _ _ _ (ho _ _ _ _ (ho _ _ _ _ (ho _ _ _ _ (ho _ _ _ _ (hn _ _ _ rfl))))))
  · exact hn _ _ _ (by simp [World.size_alloc])
theorem bel_made (w : World) (br : Nat) : Below w.heap.size w (((((((w.alloc (.cells #[.pointer (some ⟨br, 0, none⟩)] 95)).alloc (mapO (trues [⟨#[61]⟩, ⟨#[35]⟩, ⟨#[60]⟩, ⟨#[60, 61]⟩, ⟨#[62]⟩, ⟨#[62, 61]⟩, ⟨#[73, 78]⟩]))).alloc (mapO (trues [⟨#[43]⟩, ⟨#[45]⟩, ⟨#[79, 82]⟩]))).alloc (mapO (trues [⟨#[42]⟩, ⟨#[47]⟩, ⟨#[68, 73, 86]⟩, ⟨#[77, 79, 68]⟩, ⟨#[65, 78, 68]⟩]))).alloc (.cells #[.map (some (w.heap.size + 1)), .map (some (w.heap.size + 1 + 1)), .map (some (w.heap.size + 1 + 1 + 1))] 104)).alloc (.cells #[.slice (some ⟨w.heap.size + 1 + 1 + 1 + 1, 0, none⟩) 3 3] 105)).alloc (.cells #[.func (.func 94) #[] #[.pointer (some ⟨w.heap.size + 1 + 1 + 1 + 1 + 1, 0, none⟩), .pointer (some ⟨w.heap.size, 0, none⟩), .pointer (some ⟨w.heap.size + 1 + 1 + 1 + 1 + 1 + 1, 0, none⟩)]] 106)) := by
  have ha : ∀ {W : World} (h : Below w.heap.size w W) (o : Obj), Below w.heap.size w (W.alloc o) := fun h o => h.alloc h.size o
  exact ha (ha (ha (ha (ha (ha (ha (Below.refl _ _) _) _) _) _) _) _) _
set_option maxRecDepth 100000 in
set_option maxHeartbeats 3200000 in
theorem lev3_any {fac : Nat → Except Nat (T1 × Nat)} {lo : Nat} {w0 : World} {br c : Nat} {A : Option Addr} {L : List PT} {bl bs m0 m1 m2 b2 b3 : Nat} (ht : Toks w0 br A L) (hF : FnOK 95 fac lo w0 br A c L) (i : Nat) (hlo : lo ≤ i) (hi : i ≤ 60000) (w : World) (h : PInv w0 w br A c L i) (hv : Lv w bl bs m0 m1 m2 b2 b3 br) :
    Calls Try.prog 94 #[.int .i64 3, .pointer (some ⟨bl, 0, none⟩), .pointer (some ⟨b2, 0, none⟩), .pointer (some ⟨b3, 0, none⟩)] w (TreeR w.heap.size w0 w br A c L (levD L fac 0 i)) := by
  have hbr0 := h.row.lt
  have d1 := hF i hlo hi w h
  obtain ⟨v1, v2, v3, v4, v5, v6⟩ := hv.facts
  obtain ⟨l1, l2, l3, l4⟩ := hv.lts
  clear hF h ht hv
  show Calls _ _ _ _ (TreeR w.heap.size w0 w br A c L (fac i))
  cases hx : fac i with
  | error k =>
    rw [hx] at d1
    have D1 := Lib.hid d1
    clear d1 hx
    go_enter Try.func94, Try.ntmps94
    go_wp2_with fail
    ((with_reducible refine D1.out.mono ?_); rintro e w1 ⟨rfl, hb⟩)
    have HB := Lib.hid hb
    clear hb
    go_wp2
    exact ⟨rfl, rfl, HB.out⟩
  | ok r =>
    obtain ⟨x, j⟩ := r
    rw [hx] at d1
    have D1 := Lib.hid d1
    clear d1 hx
    go_enter Try.func94, Try.ntmps94
    go_wp2_with fail
    ((with_reducible refine D1.out.mono ?_); rintro e w1 ⟨b, rfl, hp, hg, hr⟩)
    have HB := Lib.hid (And.intro hp (And.intro hg hr))
    clear hp hg hr
    go_wp2
    go_ret
    exact ⟨b, rfl, HB.out.1, HB.out.2.1, HB.out.2.2⟩
theorem lev1_any {fac : Nat → Except Nat (T1 × Nat)} {lo : Nat} {w0 : World} {br c : Nat} {A : Option Addr} {L : List PT} {bl bs m0 m1 m2 b2 b3 : Nat} (ht : Toks w0 br A L) (hm : SpOK L fac)
    (hS : ∀ j, lo ≤ j → j ≤ 60000 → ∀ w, PInv w0 w br A c L j → Lv w bl bs m0 m1 m2 b2 b3 br → Calls Try.prog 94 #[.int .i64 2, .pointer (some ⟨bl, 0, none⟩), .pointer (some ⟨b2, 0, none⟩), .pointer (some ⟨b3, 0, none⟩)] w (TreeR w.heap.size w0 w br A c L (levD L fac 1 j)))
    (i : Nat) (hlo : lo ≤ i) (hi : i ≤ 60000) (w : World) (h : PInv w0 w br A c L i) (hv : Lv w bl bs m0 m1 m2 b2 b3 br) :
    Calls Try.prog 94 #[.int .i64 1, .pointer (some ⟨bl, 0, none⟩), .pointer (some ⟨b2, 0, none⟩), .pointer (some ⟨b3, 0, none⟩)] w (TreeR w.heap.size w0 w br A c L (levD L fac 2 i)) := by
  cases hP : isT L i sPlu
  · cases hM : isT L i sMin
    · exact lev1N_any ht hm hS i hlo hi hP hM w h hv
    · exact lev1M_any ht hm hS i hlo hi hP hM w h hv
  · exact lev1P_any ht hm hS i hlo hi hP w h hv
/-- All levels. -/
theorem levels_any {fac : Nat → Except Nat (T1 × Nat)} {lo : Nat} {w0 : World} {br c : Nat} {A : Option Addr} {L : List PT} {bl bs m0 m1 m2 b2 b3 : Nat} (ht : Toks w0 br A L) (hF : FnOK 95 fac lo w0 br A c L) (hm : SpOK L fac) (i : Nat) (hlo : lo ≤ i) (hi : i ≤ 60000) (w : World) (h : PInv w0 w br A c L i) (hv : Lv w bl bs m0 m1 m2 b2 b3 br) :
    Calls Try.prog 94 #[.int .i64 0, .pointer (some ⟨bl, 0, none⟩), .pointer (some ⟨b2, 0, none⟩), .pointer (some ⟨b3, 0, none⟩)] w (TreeR w.heap.size w0 w br A c L (exprG L fac i)) :=
  lev0_any ht hm (lev1_any ht hm (lev2_any ht hm (lev3_any ht hF))) i hlo hi w h hv

set_option maxRecDepth 100000 in
set_option maxHeartbeats 3200000 in
theorem expr_any {fac : Nat → Except Nat (T1 × Nat)} {lo : Nat} {w0 : World} {br c : Nat} {A : Option Addr} {L : List PT} (ht : Toks w0 br A L) (hF : FnOK 95 fac lo w0 br A c L) (hm : SpOK L fac) : FnOK 85 (exprG L fac) lo w0 br A c L := by
  intro i hlo hi w h
  have hbr0 := h.row.lt
  have H := Lib.hid (PG.start h)
  have LV := Lib.hid (fun w h bl bs m0 m1 m2 b2 b3 hv => levels_any (bl := bl) (bs := bs) (m0 := m0) (m1 := m1) (m2 := m2) (b2 := b2) (b3 := b3) ht hF hm i hlo hi w h hv)
  have hmk := @run_makeMap Try.prog
  have hmf : ∀ (fn : Fn) (first cap : Array Value) (w : World), (Instr.makeFunc fn first cap).run Try.prog w = .ok (.func fn first cap) w := fun _ _ _ _ => rfl
  have h_ins_0_0 := ins_0_0
  have h_ins_0_1 := ins_0_1
  have h_ins_0_2 := ins_0_2
  have h_ins_0_3 := ins_0_3
  have h_ins_0_4 := ins_0_4
  have h_ins_0_5 := ins_0_5
  have h_ins_0_6 := ins_0_6
  have h_ins_1_0 := ins_1_0
  have h_ins_1_1 := ins_1_1
  have h_ins_1_2 := ins_1_2
  have h_ins_2_0 := ins_2_0
  have h_ins_2_1 := ins_2_1
  have h_ins_2_2 := ins_2_2
  have h_ins_2_3 := ins_2_3
  have h_ins_2_4 := ins_2_4
  clear ht hF hm h
  generalize exprG L fac i = res at *
  go_enter Try.func85, Try.ntmps85
  go_wp2_with fail
  have hb7 := bel_made w br
  have d1 := LV.out _ (H.out.1.below hb7) _ _ _ _ _ _ _ (lv_made w br hbr0)
  have HZ := Lib.hid hb7.size
  have H := Lib.hid (H.out.below hb7)
  clear hb7 LV
  cases hx : res with
  | error k =>
    rw [hx] at d1
    have D1 := Lib.hid d1
    clear d1
    ((with_reducible refine D1.out.mono ?_); rintro e w1 ⟨rfl, hb⟩)
    have HB := Lib.hid (grown_trans H.out.2 hb)
    clear hb
    go_wp2
    exact ⟨rfl, rfl, HB.out⟩
  | ok r =>
    obtain ⟨x, j⟩ := r
    rw [hx] at d1
    have D1 := Lib.hid d1
    clear d1
    ((with_reducible refine D1.out.mono ?_); rintro e w1 ⟨b, rfl, hp, hg, hr⟩)
    have HB := Lib.hid (And.intro (H.out.trans ⟨hp, hg⟩) (hr.more (S' := fun y => w.heap.size ≤ y) fun y hy _ => Nat.le_trans HZ.out hy))
    clear hp hg hr
    go_wp2
    go_ret
    rw [hx]
    exact ⟨b, rfl, HB.out.1.1, HB.out.1.2, HB.out.2⟩
end Go.Proofs.Ytecmjhohniipoaa.Ex
