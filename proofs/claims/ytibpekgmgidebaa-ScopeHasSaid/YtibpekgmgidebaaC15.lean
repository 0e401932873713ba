/- IndexFunc, Of. -/
import Derived.Test.YtibpekgmgidebaaC14
set_option linter.unusedSimpArgs false
set_option linter.unusedVariables false
namespace Go.Proofs.Ytibpekgmgidebaa.Sc
open Go.RowKit
open Od
open Lx (EnvS isName Name_any)
attribute [local go_sem] lvl_field1

set_option maxRecDepth 100000 in
set_option maxHeartbeats 3200000 in
theorem of_eq {w : World} {g : Nat} {s : ByteArray} (hg : w.cell? ⟨g, 0, none⟩ = some (.string s)) (v1 v2 v3 v4 v5 v6 : Value) : Calls Try.prog 26 #[.agg #[.string s, v1, v2, v3, v4, v5, v6], .pointer (some ⟨g, 0, none⟩)] w fun e w' => e = .returned (.bool true) ∧ w.grownBy w' none := by
  have hl := Lx.cell_lt hg
  have HA := Lib.hid (fun (o : Obj) => World.grownBy_alloc w o none)
  go_enter Try.func26, Try.ntmps26
  go_wp2
  go_ret
  exact ⟨by simp, HA.out _⟩
theorem row7 {w : World} {b : Nat} {cur : Array Value} {v0 v1 v2 v3 v4 v5 v6 : Value} (hb : w.heap[b]? = some (.cells cur 31 (0, 0))) (ht : cur.toList.take 7 = [v0, v1, v2, v3, v4, v5, v6]) :
    w.cell? ⟨b, 0, none⟩ = some v0 ∧ w.cell? ⟨b, 1, none⟩ = some v1 ∧ w.cell? ⟨b, 2, none⟩ = some v2 ∧ w.cell? ⟨b, 3, none⟩ = some v3 ∧ w.cell? ⟨b, 4, none⟩ = some v4 ∧ w.cell? ⟨b, 5, none⟩ = some v5 ∧ w.cell? ⟨b, 6, none⟩ = some v6 := by
  have h : ∀ (j : Nat) (v : Value), j < 7 → [v0, v1, v2, v3, v4, v5, v6][j]? = some v → w.cell? ⟨b, j, none⟩ = some v := by
    intro j v hj hv
    rw [cell_of_row _ _ _ _ _ _ hb, ← hv, ← ht, List.getElem?_take, if_pos hj]
    simp
  exact ⟨h 0 v0 (by omega) rfl, h 1 v1 (by omega) rfl, h 2 v2 (by omega) rfl, h 3 v3 (by omega) rfl, h 4 v4 (by omega) rfl, h 5 v5 (by omega) rfl, h 6 v6 (by omega) rfl⟩
set_option maxRecDepth 100000 in
set_option maxHeartbeats 3200000 in
theorem index_first {w : World} {g b cap : Nat} {s : ByteArray} (hg : w.cell? ⟨g, 0, none⟩ = some (.string s)) {cur : Array Value} {v1 v2 v3 v4 v5 v6 : Value} (hb : w.heap[b]? = some (.cells cur 31 (0, 0))) (ht : cur.toList.take 7 = [.string s, v1, v2, v3, v4, v5, v6]) :
    Calls Try.prog 25 #[.slice (some ⟨b, 0, none⟩) 1 cap, .func (.func 26) #[] #[.pointer (some ⟨g, 0, none⟩)]] w fun e w' => e = .returned (.int .i64 0) ∧ w.grownBy w' none := by
  obtain ⟨c0, c1, c2, c3, c4, c5, c6⟩ := row7 hb ht
  have HF := Lib.hid (of_eq hg v1 v2 v3 v4 v5 v6)
  have hbl := (Array.getElem?_eq_some_iff.1 hb).1
  clear hg hb ht
  go_enter Try.func25, Try.ntmps25
  go_wp2
  go_loopg [8] 0 (fun gh si wr => si = .int .i64 0 ∧ wr = w)
  case atStart => exact ⟨rfl, rfl⟩
  case round =>
    obtain ⟨rfl, rfl⟩ := hrel
    go_wp2_with fail
    with_reducible refine HF.out.mono ?_
    rintro e w1 ⟨rfl, hg1⟩
    have HG := Lib.hid hg1
    clear hg1
    go_wp2
    go_ret
    exact ⟨rfl, HG.out⟩
set_option maxRecDepth 100000 in
set_option maxHeartbeats 3200000 in
theorem Of_any {w : World} {B vb : Nat} {ls : List Lvl} (H : EnvAt w B vb ls) (hn : ls.length = 3) (m : Nm) (s : ByteArray) {g cap : Nat} {cur : Array Value} {v1 v2 v3 v4 v5 v6 : Value} (hgc : w.heap[g]? = some (.cells cur 31 (0, 0))) (ht : cur.toList.take 7 = [.string s, v1, v2, v3, v4, v5, v6]) (h1 : ∀ v ∈ [.string s, v1, v2, v3, v4, v5, v6], v.oneCell' = true)
    (hf : ∀ o o2, Calls Try.prog 23 #[.pointer (some ⟨vb, 0, none⟩), .int .i64 2, .string (S m)] ((w.alloc o).alloc o2) fun r w' => r = .returned (.tuple #[itm (eU m, .slice (some ⟨g, 0, none⟩) 1 cap), .bool true]) ∧ ((w.alloc o).alloc o2).grownBy w' none) :
    Calls Try.prog 14 #[.pointer (some ⟨vb, 0, none⟩), .string (S m), .string s] w fun r w' => r = .returned (.tuple #[.agg #[.string s, v1, v2, v3, v4, v5, v6], .bool true]) ∧ w.grownBy w' none := by
  unfold itm Ent.item eU at hf
  dsimp only at hf
  have hd : ∀ (o o2 : Obj), Calls Try.prog 16 #[.pointer (some ⟨vb, 0, none⟩)] ((w.alloc o).alloc o2) fun e w' => e = .returned (.int .i64 3) ∧ w' = (w.alloc o).alloc o2 := fun o o2 => (deep_any ((H.grown (World.grownBy_alloc w o none)).grown (World.grownBy_alloc _ o2 none))).mono fun e w' ⟨h1, h2⟩ => ⟨by rw [h1, hn]; rfl, h2⟩
  have HD := Lib.hid hd
  have HF := Lib.hid hf
  have hgl := (Array.getElem?_eq_some_iff.1 hgc).1
  have HA := Lib.hid (fun (o o2 : Obj) => grown_trans (World.grownBy_alloc w o none) (World.grownBy_alloc (w.alloc o) o2 none))
  have HIX := Lib.hid (fun (wx : World) (hg : (w.alloc (.cells #[.string s] 9)).grownBy wx none) => index_first (w := wx) (g := w.heap.size) (b := g) (cap := cap) (s := s) (boxed (w := w) (w' := wx) hg 0) ((hg.block g (by simp; omega) (by simp)).trans ((heap_alloc_old w _ hgl).trans hgc)) ht)
  have HGC := Lib.hid (fun (wx : World) (hg : w.grownBy wx none) => row7 ((hg.block g hgl (by simp)).trans hgc) ht)
  have o1 := h1 v1 (by simp)
  have o2 := h1 v2 (by simp)
  have o3 := h1 v3 (by simp)
  have o4 := h1 v4 (by simp)
  have o5 := h1 v5 (by simp)
  have o6 := h1 v6 (by simp)
  have sv1 := fun (wx : World) (a : Addr) (m : Mode) => run_store Try.prog wx a v1 m o1
  have sv2 := fun (wx : World) (a : Addr) (m : Mode) => run_store Try.prog wx a v2 m o2
  have sv3 := fun (wx : World) (a : Addr) (m : Mode) => run_store Try.prog wx a v3 m o3
  have sv4 := fun (wx : World) (a : Addr) (m : Mode) => run_store Try.prog wx a v4 m o4
  have sv5 := fun (wx : World) (a : Addr) (m : Mode) => run_store Try.prog wx a v5 m o5
  have sv6 := fun (wx : World) (a : Addr) (m : Mode) => run_store Try.prog wx a v6 m o6
  clear H hf hd hn hgc ht h1 o1 o2 o3 o4 o5 o6
  go_enter Try.func14, Try.ntmps14
  go_wp2_with fail
  with_reducible refine (HD.out _ _).mono ?_
  rintro r w2 ⟨rfl, hw⟩
  have hw2 := hw.symm
  subst hw2
  clear hw
  go_wp2_with fail
  with_reducible refine (HF.out _ _).mono ?_
  rintro r w3 ⟨rfl, hg3⟩
  have HG3 := Lib.hid hg3
  clear hg3
  go_wp2_with fail
  with_reducible refine (HIX.out _ (grown_trans (grown_trans (World.grownBy_alloc _ _ none) HG3.out) (World.grownBy_alloc _ _ none))).mono ?_
  rintro r w4 ⟨rfl, hg4⟩
  have y7 := boxed (w := w3) (w' := w4) hg4 7
  simp only [List.getElem?_toArray, List.getElem?_cons_zero, List.getElem?_cons_succ] at y7
  have HG4 := Lib.hid (grown_trans (World.grownBy_alloc w3 _ none) hg4)
  have HGT := Lib.hid (grown_trans (HA.out _ _) (grown_trans HG3.out HG4.out))
  obtain ⟨r0, r1, r2, r3, r4, r5, r6⟩ := HGC.out w4 HGT.out
  have hgl4 := Nat.lt_of_lt_of_le hgl HGT.out.size
  have hzb : w4.heap[w.heap.size + 1]? = some (.cells #[.string ⟨#[]⟩, .int .u8 0, .int .i64 0, .nilIface, .int .i64 0, .int .i64 0, .string ⟨#[]⟩] 31 (0, 0)) := by
    have h := heap_alloc_new (w.alloc (.cells #[.string s] 9)) (.cells #[.string ⟨#[]⟩, .int .u8 0, .int .i64 0, .nilIface, .int .i64 0, .int .i64 0, .string ⟨#[]⟩] 31)
    rw [World.size_alloc] at h
    exact ((grown_trans HG3.out HG4.out).block _ (by simp) (by simp)).trans h
  have zf := unfrozen_blk hzb
  have zc := fun j => cell_of_row _ _ j _ _ _ hzb
  have z0 := zc 0
  have z1 := zc 1
  have z2 := zc 2
  have z3 := zc 3
  have z4 := zc 4
  have z5 := zc 5
  have z6 := zc 6
  simp only [List.getElem?_toArray, List.getElem?_cons_zero, List.getElem?_cons_succ] at z0 z1 z2 z3 z4 z5 z6
  have HZB := Lib.hid hzb
  clear hg4 hzb zc
  go_wp2
  refine bodyPost_ret (ent_ret2 rfl _ _ (w.heap.size + 1) _ _ _ _ _ _ _ rfl (ent_stored HZB.out _ _ _ _ _ _ _)) rfl ?_
  refine ⟨rfl, ?_⟩
  repeat (with_reducible refine grown_set ?_ (by simp))
  with_reducible exact HGT.out
end Go.Proofs.Ytibpekgmgidebaa.Sc
