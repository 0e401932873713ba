/- may, Put, Change. -/
import Derived.Test.YtibpekgmgidebaaC4
set_option linter.unusedSimpArgs false
set_option linter.unusedVariables false
namespace Go.Proofs.Ytibpekgmgidebaa.Sc
open Go.RowKit
open Od
open Lx (EnvS isName Name_any)
attribute [local go_sem] lvl_field1
attribute [local go_sem ↓] Go.wp_at_zero Go.wp_at_succ

theorem EnvAt.set {w w' : World} {B vb : Nat} {ls : List Lvl} {l : Lvl} (H : EnvAt w B vb (ls ++ [l])) (hg : w.grownBy w' (some l.b)) {ks : List Nm} {f : Nm → Ent × Value} (hm : IsM w' l.b ks (fun k => itm (f k))) (ho : ∀ k ∈ ks, (f k).1.v.oneCell' = true ∧ (f k).2.oneCell' = true) : EnvAt w' B vb (ls ++ [⟨l.cl, l.b, ks, f⟩]) := by
  obtain ⟨lo, ⟨g, cap, h1, h2, h3⟩, ne, maps, one, nd⟩ := H
  obtain ⟨cur, b1, b2, _⟩ := own_blk h2
  obtain ⟨m1, m2⟩ := maps l (by simp)
  obtain ⟨es, clock, m3, _⟩ := m2
  have n1 : vb ≠ l.b := fun e => by rw [e, m3] at h1; cases h1
  have n2 : g ≠ l.b := fun e => by rw [e, m3] at b2; cases b2
  have hr : rowL (ls ++ [⟨l.cl, l.b, ks, f⟩]) = rowL (ls ++ [l]) := by simp [rowL]
  have hn : (ls ++ [(⟨l.cl, l.b, ks, f⟩ : Lvl)]).length = (ls ++ [l]).length := by simp
  have k1 : w'.heap[vb]? = w.heap[vb]? := hg.block vb (Array.getElem?_eq_some_iff.1 h1).1 (fun e => n1 (by injection e))
  have k2 : w'.heap[g]? = w.heap[g]? := hg.block g (Array.getElem?_eq_some_iff.1 b2).1 (fun e => n2 (by injection e))
  refine ⟨lo, ⟨g, cap, by rw [hn, k1]; exact h1, by rw [hn, hr]; exact own_kept h2 k2, h3⟩, by simp, fun x hx => ?_, fun x hx => ?_, by simpa using nd⟩
  rw [List.mem_append, List.mem_singleton] at hx
  rcases hx with hx | rfl
  · obtain ⟨x1, x2⟩ := maps x (by simp [hx])
    refine ⟨x1, x2.kept (hg.block _ x2.lt (fun e => ?_))⟩
    injection e with e
    rw [List.map_append, List.nodup_append] at nd
    exact nd.2.2 x.b (List.mem_map_of_mem hx) l.b (by simp) e
  · exact ⟨m1, hm⟩
  · rw [List.mem_append, List.mem_singleton] at hx
    rcases hx with hx | rfl
    · exact one x (by simp [hx])
    · exact ho
theorem envS_grown {w w' : World} {r : Option Nat} (E : EnvS w) (hg : w.grownBy w' r) (hr : ∀ k, r = some k → k ≠ 0) : EnvS w' := by
  obtain ⟨m, hm⟩ := E.ml
  have hl := Lx.cell_lt hm
  refine ⟨m, ?_⟩
  rw [← hm]
  exact World.cell?_of_block (hg.block _ hl (fun e => hr _ e.symm rfl))
theorem zero_item (w : World) : (zeroValue 58).run Try.prog w = .ok (.agg #[.string ⟨#[]⟩, .int .u8 0, .int .i64 0, .nilIface, .int .i64 0, .int .i64 0, .string ⟨#[]⟩, .slice none 0 0]) w := by kernel_rfl
theorem grown_set {a b : World} {p : Addr} {v : Value} (h : a.grownBy b none) (hp : a.heap.size ≤ p.block) : a.grownBy (b.setCell p v) none :=
  ⟨h.os, h.tape, h.output, by have := h.size; simpa [World.setCell] using this, fun k hk hr => (Below.heap_setCell b p v k (by omega)).trans (h.block k hk hr)⟩
theorem grown_alloc {a b : World} {o : Obj} (h : a.grownBy b none) : a.grownBy (b.alloc o) none := grown_trans h (World.grownBy_alloc b o none)
theorem grown_drew {a b : World} (h : a.grownBy b none) : a.grownBy b.drew none := ⟨h.os, h.tape, h.output, h.size, h.block⟩
theorem unfrozen_blk {w : World} {b : Nat} {cs : Array Value} {t : TypeId} (h : w.heap[b]? = some (.cells cs t (0, 0))) (j : Nat) : w.frozen? ⟨b, j, none⟩ = false := by simp [World.frozen?, h]
theorem name_le {m : Nm} (h : isName m = true) : m.length ≤ 32 := by
  unfold isName at h
  simp only [Bool.and_eq_true, decide_eq_true_eq] at h
  exact h.1.1.1.2
set_option maxRecDepth 100000 in
set_option maxHeartbeats 6400000 in
theorem may_in {w : World} {B vb : Nat} {ls : List Lvl} {l : Lvl} (H : EnvAt w B vb (ls ++ [l])) (E : EnvS w) (e : Ent) (hnm : isName e.name = true) (hk : 1 ≤ e.kind ∧ e.kind ≤ 9) (hin : e.name ∈ l.ks) (there : Bool) :
    Calls Try.prog 19 #[.pointer (some ⟨vb, 0, none⟩), e.val, .bool there] w fun r w' => r = .returned (.int .i64 (if there then 0 else 6)) ∧ w.grownBy w' none := by
  obtain ⟨en, ek, et, ev, el, ea, em⟩ := e
  have HE := Lib.hid H
  have HEV := Lib.hid E
  have HNM := Lib.hid hnm
  have hnm0 := hnm
  clear H E hnm
  unfold Ent.val
  dsimp only at hk hin ⊢
  have hA := World.grownBy_alloc w (.cells #[.string (S en), .int .u8 ek, .int .i64 et, ev, .int .i64 el, .int .i64 ea, .string em] 31) none
  have HA := Lib.hid hA
  have HE1 := Lib.hid (HE.out.grown hA)
  have HMD := Lib.hid (made_any HE1.out)
  have HIN := Lib.hid hin
  clear hA hin
  go_enter Try.func19, Try.ntmps19
  go_wp2_with fail
  refine HMD.out.mono ?_
  rintro r w2 ⟨rfl, hw⟩
  subst hw
  go_wp2
  have HE2 := Lib.hid (show EnvAt (w.alloc (.cells #[.string (S en), .int .u8 ek, .int .i64 et, ev, .int .i64 el, .int .i64 ea, .string em] 31)).drew B vb (ls ++ [l]) from HE.out.kept fun k _ hk => Below.heap_alloc _ _ k hk)
  have HBX := Lib.hid (fun (w3 : World) (hg : ((w.alloc (.cells #[.string (S en), .int .u8 ek, .int .i64 et, ev, .int .i64 el, .int .i64 ea, .string em] 31)).drew).grownBy w3 none) (j : Nat) => boxed (w := w) (o := #[.string (S en), .int .u8 ek, .int .i64 et, ev, .int .i64 el, .int .i64 ea, .string em]) (t := 31) (w' := w3) ⟨hg.os, hg.tape, hg.output, hg.size, hg.block⟩ j)
  have HXY := Lib.hid (fun (o : Obj) => show ((w.alloc (.cells #[.string (S en), .int .u8 ek, .int .i64 et, ev, .int .i64 el, .int .i64 ea, .string em] 31)).drew).grownBy ((w.alloc (.cells #[.string (S en), .int .u8 ek, .int .i64 et, ev, .int .i64 el, .int .i64 ea, .string em] 31)).alloc o).drew none from (by have h := World.grownBy_alloc (w.alloc (.cells #[.string (S en), .int .u8 ek, .int .i64 et, ev, .int .i64 el, .int .i64 ea, .string em] 31)) o none; exact ⟨h.os, h.tape, h.output, h.size, h.block⟩))
  have HE3 := Lib.hid (fun o => HE2.out.grown (HXY.out o))
  have HGW := Lib.hid (show w.grownBy (w.alloc (.cells #[.string (S en), .int .u8 ek, .int .i64 et, ev, .int .i64 el, .int .i64 ea, .string em] 31)).drew none from grown_drew HA.out)
  have HNA := Lib.hid (fun (wx : World) (hg : w.grownBy wx none) => Name_any (S en) (by rw [S_size]; have := name_le hnm0; omega) (envS_grown HEV.out hg (by simp)))
  rw [show (S en).data.toList = en by simp [S], HNM.out] at HNA
  obtain ⟨ho1, ho2⟩ := HE.out.one l (by simp) en HIN.out
  obtain ⟨fn, fk, ft, fv, fl, fa, fm, fx, hfi⟩ : ∃ a b c d e' g h x, l.f en = (⟨a, b, c, d, e', g, h⟩, x) := ⟨_, _, _, _, _, _, _, _, rfl⟩
  have HFI := Lib.hid hfi
  rw [hfi] at ho1 ho2
  have sv1 := fun (wx : World) (a : Addr) (m : Mode) => run_store Try.prog wx a fv m ho1
  have sv2 := fun (wx : World) (a : Addr) (m : Mode) => run_store Try.prog wx a fx m ho2
  have k1 : ¬ (ek : Int) < 1 := by omega
  have k2 : ¬ (9 : Int) < (ek : Int) := by omega
  clear hfi hnm0
  have b0 := fun o => HBX.out _ (HXY.out o) 0
  simp only [List.getElem?_toArray, List.getElem?_cons_zero, List.getElem?_cons_succ] at b0
  have HZ := Lib.hid (fun (w3 : World) (hg : (((w.alloc (.cells #[.string (S en), .int .u8 ek, .int .i64 et, ev, .int .i64 el, .int .i64 ea, .string em] 31)).alloc (.cells #[.string ⟨#[]⟩, .int .u8 0, .int .i64 0, .nilIface, .int .i64 0, .int .i64 0, .string ⟨#[]⟩, .slice none 0 0] 58)).drew).grownBy w3 none) => show w3.heap[w.heap.size + 1]? = some (.cells #[.string ⟨#[]⟩, .int .u8 0, .int .i64 0, .nilIface, .int .i64 0, .int .i64 0, .string ⟨#[]⟩, .slice none 0 0] 58 (0, 0)) from (hg.block (w.heap.size + 1) (by simp) (by simp)).trans (by have := heap_alloc_new (w.alloc (.cells #[.string (S en), .int .u8 ek, .int .i64 et, ev, .int .i64 el, .int .i64 ea, .string em] 31)) (.cells #[.string ⟨#[]⟩, .int .u8 0, .int .i64 0, .nilIface, .int .i64 0, .int .i64 0, .string ⟨#[]⟩, .slice none 0 0] 58); rw [World.size_alloc] at this; exact this))
  go_region_with (first
    | (go_at_call 22; (with_reducible refine (top_any HE2.out).mono ?_); rintro r w3 ⟨rfl, hg3⟩
       have c0 := HBX.out w3 hg3 0
       have c1 := HBX.out w3 hg3 1
       have d0 := fun o => HBX.out _ (grown_trans hg3 (World.grownBy_alloc w3 o none)) 0
       have d1 := fun o => HBX.out _ (grown_trans hg3 (World.grownBy_alloc w3 o none)) 1
       simp only [List.getElem?_toArray, List.getElem?_cons_zero, List.getElem?_cons_succ] at c0 c1 d0 d1
       have hM := (((HE2.out.grown hg3).maps l (by simp)).2)
       have l1 := hM.look_in Try.underlying43 Try.underlying9 HIN.out true
       have l2 := fun o => (hM.alloc o).look_in Try.underlying43 Try.underlying9 HIN.out true
       simp only [HFI.out, itm, Ent.item, if_true] at l1 l2
       have HG := Lib.hid (grown_trans HGW.out hg3)
       clear hM hg3)
    | (go_at_call 22; (with_reducible refine (top_any (HE3.out _)).mono ?_); rintro r w3 ⟨rfl, hg4⟩
       have hz := HZ.out w3 hg4
       have zf := unfrozen_blk hz
       have zc := fun j => cell_of_row _ _ j _ _ _ hz
       have z0 := zc 0
       have z1 := zc 1
       have z2 := zc 2
       have z3 := zc 3
       have z4 := zc 4
       have z5 := zc 5
       have z6 := zc 6
       have z7 := zc 7
       simp only [List.getElem?_toArray, List.getElem?_cons_zero, List.getElem?_cons_succ] at z0 z1 z2 z3 z4 z5 z6 z7
       have hg3 := grown_trans (HXY.out _) hg4
       have c0 := HBX.out w3 hg3 0
       have c1 := HBX.out w3 hg3 1
       have d0 := fun o => HBX.out _ (grown_trans hg3 (World.grownBy_alloc w3 o none)) 0
       have d1 := fun o => HBX.out _ (grown_trans hg3 (World.grownBy_alloc w3 o none)) 1
       simp only [List.getElem?_toArray, List.getElem?_cons_zero, List.getElem?_cons_succ] at c0 c1 d0 d1
       have hM := (((HE2.out.grown hg3).maps l (by simp)).2)
       have l1 := hM.look_in Try.underlying43 Try.underlying9 HIN.out true
       have l2 := fun o => (hM.alloc o).look_in Try.underlying43 Try.underlying9 HIN.out true
       simp only [HFI.out, itm, Ent.item, if_true] at l1 l2
       have HG := Lib.hid (grown_trans HGW.out hg3)
       clear hM hg3 hg4 zc hz))
  all_goals
    simp only [List.getElem_toArray, List.getElem_cons_succ, List.getElem_cons_zero]
    try go_frame
    go_wp2_with fail
    with_reducible refine (HNA.out _ ?_).mono ?_
    · first
        | with_reducible exact grown_alloc HG.out
        | (repeat (with_reducible refine grown_set ?_ (by simp)))
          with_reducible exact HG.out
    rintro r w5 ⟨rfl, hw⟩
    have hw2 := hw.symm
    subst hw2
    clear hw
    cases there
    all_goals
      go_wp2
      go_ret
      refine ⟨rfl, ?_⟩
      first
        | with_reducible exact grown_alloc HG.out
        | (repeat (with_reducible refine grown_set ?_ (by simp)))
          with_reducible exact HG.out
set_option maxRecDepth 100000 in
set_option maxHeartbeats 6400000 in
theorem may_out {w : World} {B vb : Nat} {ls : List Lvl} {l : Lvl} (H : EnvAt w B vb (ls ++ [l])) (E : EnvS w) (e : Ent) (hnm : isName e.name = true) (hk : 1 ≤ e.kind ∧ e.kind ≤ 9) (hin : e.name ∉ l.ks) (there : Bool) :
    Calls Try.prog 19 #[.pointer (some ⟨vb, 0, none⟩), e.val, .bool there] w fun r w' => r = .returned (.int .i64 (if there then 130 else 0)) ∧ w.grownBy w' none := by
  obtain ⟨en, ek, et, ev, el, ea, em⟩ := e
  have HE := Lib.hid H
  have HEV := Lib.hid E
  have HNM := Lib.hid hnm
  have hnm0 := hnm
  clear H E hnm
  unfold Ent.val
  dsimp only at hk hin ⊢
  have hA := World.grownBy_alloc w (.cells #[.string (S en), .int .u8 ek, .int .i64 et, ev, .int .i64 el, .int .i64 ea, .string em] 31) none
  have HA := Lib.hid hA
  have HE1 := Lib.hid (HE.out.grown hA)
  have HMD := Lib.hid (made_any HE1.out)
  have HIN := Lib.hid hin
  clear hA hin
  go_enter Try.func19, Try.ntmps19
  go_wp2_with fail
  refine HMD.out.mono ?_
  rintro r w2 ⟨rfl, hw⟩
  subst hw
  go_wp2
  have HE2 := Lib.hid (show EnvAt (w.alloc (.cells #[.string (S en), .int .u8 ek, .int .i64 et, ev, .int .i64 el, .int .i64 ea, .string em] 31)).drew B vb (ls ++ [l]) from HE.out.kept fun k _ hk => Below.heap_alloc _ _ k hk)
  have HBX := Lib.hid (fun (w3 : World) (hg : ((w.alloc (.cells #[.string (S en), .int .u8 ek, .int .i64 et, ev, .int .i64 el, .int .i64 ea, .string em] 31)).drew).grownBy w3 none) (j : Nat) => boxed (w := w) (o := #[.string (S en), .int .u8 ek, .int .i64 et, ev, .int .i64 el, .int .i64 ea, .string em]) (t := 31) (w' := w3) ⟨hg.os, hg.tape, hg.output, hg.size, hg.block⟩ j)
  have HXY := Lib.hid (fun (o : Obj) => show ((w.alloc (.cells #[.string (S en), .int .u8 ek, .int .i64 et, ev, .int .i64 el, .int .i64 ea, .string em] 31)).drew).grownBy ((w.alloc (.cells #[.string (S en), .int .u8 ek, .int .i64 et, ev, .int .i64 el, .int .i64 ea, .string em] 31)).alloc o).drew none from (by have h := World.grownBy_alloc (w.alloc (.cells #[.string (S en), .int .u8 ek, .int .i64 et, ev, .int .i64 el, .int .i64 ea, .string em] 31)) o none; exact ⟨h.os, h.tape, h.output, h.size, h.block⟩))
  have HE3 := Lib.hid (fun o => HE2.out.grown (HXY.out o))
  have HGW := Lib.hid (show w.grownBy (w.alloc (.cells #[.string (S en), .int .u8 ek, .int .i64 et, ev, .int .i64 el, .int .i64 ea, .string em] 31)).drew none from grown_drew HA.out)
  have HNA := Lib.hid (fun (wx : World) (hg : w.grownBy wx none) => Name_any (S en) (by rw [S_size]; have := name_le hnm0; omega) (envS_grown HEV.out hg (by simp)))
  rw [show (S en).data.toList = en by simp [S], HNM.out] at HNA
  have k1 : ¬ (ek : Int) < 1 := by omega
  have k2 : ¬ (9 : Int) < (ek : Int) := by omega
  clear hnm0
  have b0 := fun o => HBX.out _ (HXY.out o) 0
  simp only [List.getElem?_toArray, List.getElem?_cons_zero, List.getElem?_cons_succ] at b0
  have HZ := Lib.hid (fun (w3 : World) (hg : (((w.alloc (.cells #[.string (S en), .int .u8 ek, .int .i64 et, ev, .int .i64 el, .int .i64 ea, .string em] 31)).alloc (.cells #[.string ⟨#[]⟩, .int .u8 0, .int .i64 0, .nilIface, .int .i64 0, .int .i64 0, .string ⟨#[]⟩, .slice none 0 0] 58)).drew).grownBy w3 none) => show w3.heap[w.heap.size + 1]? = some (.cells #[.string ⟨#[]⟩, .int .u8 0, .int .i64 0, .nilIface, .int .i64 0, .int .i64 0, .string ⟨#[]⟩, .slice none 0 0] 58 (0, 0)) from (hg.block (w.heap.size + 1) (by simp) (by simp)).trans (by have := heap_alloc_new (w.alloc (.cells #[.string (S en), .int .u8 ek, .int .i64 et, ev, .int .i64 el, .int .i64 ea, .string em] 31)) (.cells #[.string ⟨#[]⟩, .int .u8 0, .int .i64 0, .nilIface, .int .i64 0, .int .i64 0, .string ⟨#[]⟩, .slice none 0 0] 58); rw [World.size_alloc] at this; exact this))
  go_region_with (first
    | (go_at_call 22; (with_reducible refine (top_any HE2.out).mono ?_); rintro r w3 ⟨rfl, hg3⟩
       have c0 := HBX.out w3 hg3 0
       have c1 := HBX.out w3 hg3 1
       have d0 := fun o => HBX.out _ (grown_trans hg3 (World.grownBy_alloc w3 o none)) 0
       have d1 := fun o => HBX.out _ (grown_trans hg3 (World.grownBy_alloc w3 o none)) 1
       simp only [List.getElem?_toArray, List.getElem?_cons_zero, List.getElem?_cons_succ] at c0 c1 d0 d1
       have hM := (((HE2.out.grown hg3).maps l (by simp)).2)
       have l1 := hM.look_out Try.underlying43 Try.underlying9 HIN.out (zero_item w3) true
       have l2 := fun o => (hM.alloc o).look_out Try.underlying43 Try.underlying9 HIN.out (zero_item _) true
       simp only [if_true] at l1 l2
       have HG := Lib.hid (grown_trans HGW.out hg3)
       clear hM hg3)
    | (go_at_call 22; (with_reducible refine (top_any (HE3.out _)).mono ?_); rintro r w3 ⟨rfl, hg4⟩
       have hz := HZ.out w3 hg4
       have zf := unfrozen_blk hz
       have zc := fun j => cell_of_row _ _ j _ _ _ hz
       have z0 := zc 0
       have z1 := zc 1
       have z2 := zc 2
       have z3 := zc 3
       have z4 := zc 4
       have z5 := zc 5
       have z6 := zc 6
       have z7 := zc 7
       simp only [List.getElem?_toArray, List.getElem?_cons_zero, List.getElem?_cons_succ] at z0 z1 z2 z3 z4 z5 z6 z7
       have hg3 := grown_trans (HXY.out _) hg4
       have c0 := HBX.out w3 hg3 0
       have c1 := HBX.out w3 hg3 1
       have d0 := fun o => HBX.out _ (grown_trans hg3 (World.grownBy_alloc w3 o none)) 0
       have d1 := fun o => HBX.out _ (grown_trans hg3 (World.grownBy_alloc w3 o none)) 1
       simp only [List.getElem?_toArray, List.getElem?_cons_zero, List.getElem?_cons_succ] at c0 c1 d0 d1
       have hM := (((HE2.out.grown hg3).maps l (by simp)).2)
       have l1 := hM.look_out Try.underlying43 Try.underlying9 HIN.out (zero_item w3) true
       have l2 := fun o => (hM.alloc o).look_out Try.underlying43 Try.underlying9 HIN.out (zero_item _) true
       simp only [if_true] at l1 l2
       have HG := Lib.hid (grown_trans HGW.out hg3)
       clear hM hg3 hg4 zc hz))
  all_goals
    simp only [List.getElem_toArray, List.getElem_cons_succ, List.getElem_cons_zero]
    try go_frame
    go_wp2_with fail
    with_reducible refine (HNA.out _ ?_).mono ?_
    · first
        | with_reducible exact grown_alloc HG.out
        | (repeat (with_reducible refine grown_set ?_ (by simp)))
          with_reducible exact HG.out
    rintro r w5 ⟨rfl, hw⟩
    have hw2 := hw.symm
    subst hw2
    clear hw
    cases there
    all_goals
      go_wp2
      go_ret
      refine ⟨rfl, ?_⟩
      first
        | with_reducible exact grown_alloc HG.out
        | (repeat (with_reducible refine grown_set ?_ (by simp)))
          with_reducible exact HG.out
end Go.Proofs.Ytibpekgmgidebaa.Sc
