/- Here, Open. -/
import Derived.Test.YtibpekgmgidebaaC6
set_option linter.unusedSimpArgs false
set_option linter.unusedVariables false
namespace Go.Proofs.Ytibpekgmgidebaa.Sc
open Go.RowKit
open Od
open Lx (EnvS isName Name_any)
attribute [local go_sem] lvl_field1

theorem ent_load {w : World} {b : Nat} {v0 v1 v2 v3 v4 v5 v6 : Value} (h : w.heap[b]? = some (.cells #[v0, v1, v2, v3, v4, v5, v6] 31 (0, 0))) : (loadVar 31 ⟨b, 0, none⟩).run Try.prog w = .ok (.agg #[v0, v1, v2, v3, v4, v5, v6]) w := by
  have hl : (loadCells ⟨b, 0, none⟩ 7).run Try.prog w = .ok #[v0, v1, v2, v3, v4, v5, v6] w :=
    run_loadCells_list (P := Try.prog) w ⟨b, 0, none⟩ [v0, v1, v2, v3, v4, v5, v6] (fun j v hv => by
      have := cell_of_row w b j _ _ _ h
      have e : (⟨b, 0, none⟩ : Addr).add j = ⟨b, j, none⟩ := by
        unfold Addr.add
        by_cases h0 : j = 0
        · subst h0; rfl
        · rw [if_neg h0]; simp
      rw [e, this]
      simpa using hv)
  simp [loadVar, Sem.run_bind, Try.isAgg31, Try.sizeOf31, hl]
theorem ent_ret2 {fn : Func} {p q : Tmp} (h : fn.results = #[.cell p 31, .tmp q]) (tmps : Array Value) (w : World) (b : Nat) (v0 v1 v2 v3 v4 v5 v6 : Value) (hp : tmps.getD p undef = .pointer (some ⟨b, 0, none⟩)) (hb : w.heap[b]? = some (.cells #[v0, v1, v2, v3, v4, v5, v6] 31 (0, 0))) :
    (results fn tmps).run Try.prog w = .ok (.tuple #[.agg #[v0, v1, v2, v3, v4, v5, v6], tmps.getD q undef]) w := by
  have hp' : tmps[p]?.getD undef = .pointer (some ⟨b, 0, none⟩) := by simpa using hp
  simp [results, h, hp', asAddr, ent_load hb, Sem.run_bind]
theorem ent_stored {w : World} {b : Nat} {T : TypeId} {a0 a1 a2 a3 a4 a5 a6 : Value} (h : w.heap[b]? = some (.cells #[a0, a1, a2, a3, a4, a5, a6] T (0, 0))) (x0 x1 x2 x3 x4 x5 x6 : Value) :
    (((((((w.setCell ⟨b, 0, none⟩ x0).setCell ⟨b, 1, none⟩ x1).setCell ⟨b, 2, none⟩ x2).setCell ⟨b, 3, none⟩ x3).setCell ⟨b, 4, none⟩ x4).setCell ⟨b, 5, none⟩ x5).setCell ⟨b, 6, none⟩ x6).heap[b]? = some (.cells #[x0, x1, x2, x3, x4, x5, x6] T (0, 0)) := by
  have h : Lx.Blk w b T #[a0, a1, a2, a3, a4, a5, a6] := h
  have := ((((((h.set_ 0 x0).set_ 1 x1).set_ 2 x2).set_ 3 x3).set_ 4 x4).set_ 5 x5).set_ 6 x6
  unfold Lx.Blk at this
  simpa using this
set_option maxRecDepth 100000 in
set_option maxHeartbeats 3200000 in
theorem here_in {w : World} {B vb : Nat} {ls : List Lvl} {l : Lvl} (H : EnvAt w B vb (ls ++ [l])) (m : Nm) (hin : m ∈ l.ks) :
    Calls Try.prog 10 #[.pointer (some ⟨vb, 0, none⟩), .string (S m)] w fun r w' => r = .returned (.tuple #[(l.f m).1.val, .bool true]) ∧ w.grownBy w' none := by
  obtain ⟨ho1, ho2⟩ := H.one l (by simp) m hin
  obtain ⟨fn, fk, ft, fv, fl, fa, fm, fx, hfi⟩ : ∃ a b c d e' g h x, l.f m = (⟨a, b, c, d, e', g, h⟩, x) := ⟨_, _, _, _, _, _, _, _, rfl⟩
  have HFI := Lib.hid hfi
  rw [hfi] at ho1 ho2 ⊢
  have sv1 := fun (wx : World) (a : Addr) (m : Mode) => run_store Try.prog wx a fv m ho1
  have sv2 := fun (wx : World) (a : Addr) (m : Mode) => run_store Try.prog wx a fx m ho2
  have HA := Lib.hid (fun (o : Obj) => World.grownBy_alloc w o none)
  have HE := Lib.hid H
  have HMD := Lib.hid (fun (o : Obj) => made_any (H.grown (World.grownBy_alloc w o none)))
  have HTP := Lib.hid (fun (o : Obj) => top_any (H.grown (World.grownBy_alloc w o none)))
  have HIN := Lib.hid hin
  unfold Ent.val
  clear H hfi hin
  go_enter Try.func10, Try.ntmps10
  go_wp2_with fail
  with_reducible refine (HMD.out _).mono ?_
  rintro r w2 ⟨rfl, hw⟩
  have hw2 := hw.symm
  subst hw2
  clear hw
  go_wp2_with fail
  with_reducible refine (HTP.out _).mono ?_
  rintro r w3 ⟨rfl, hg3⟩
  have HZB := Lib.hid (fun (o : Obj) (j : Nat) => boxed (w := w) (w' := w3.alloc o) (grown_trans hg3 (World.grownBy_alloc w3 o none)) j)
  have z0 := fun o => HZB.out o 0
  have z1 := fun o => HZB.out o 1
  have z2 := fun o => HZB.out o 2
  have z3 := fun o => HZB.out o 3
  have z4 := fun o => HZB.out o 4
  have z5 := fun o => HZB.out o 5
  have z6 := fun o => HZB.out o 6
  simp only [List.getElem?_toArray, List.getElem?_cons_zero, List.getElem?_cons_succ] at z0 z1 z2 z3 z4 z5 z6
  have hzb := fun (o : Obj) => ((grown_trans hg3 (World.grownBy_alloc w3 o none)).block w.heap.size (by simp) (by simp)).trans (heap_alloc_new w _)
  have zf := fun o => unfrozen_blk (hzb o)
  have HZH := Lib.hid hzb
  have hM := ((HE.out.grown (grown_trans (HA.out _) hg3)).maps l (by simp)).2
  have l1 := hM.look_in Try.underlying43 Try.underlying9 HIN.out true
  simp only [HFI.out, itm, Ent.item, if_true] at l1
  have HG := Lib.hid (grown_trans (HA.out _) hg3)
  clear hM hg3 hzb
  go_wp2
  refine bodyPost_ret (ent_ret2 rfl _ _ w.heap.size _ _ _ _ _ _ _ rfl (ent_stored (HZH.out _) _ _ _ _ _ _ _)) rfl ?_
  refine ⟨rfl, ?_⟩
  repeat (with_reducible refine grown_set ?_ (by simp))
  with_reducible exact grown_alloc HG.out
end Go.Proofs.Ytibpekgmgidebaa.Sc
