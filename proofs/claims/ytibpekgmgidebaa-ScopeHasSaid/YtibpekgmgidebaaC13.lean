/- find. -/
import Derived.Test.YtibpekgmgidebaaC12
set_option linter.unusedSimpArgs false
set_option linter.unusedVariables false
namespace Go.Proofs.Ytibpekgmgidebaa.Sc
open Go.RowKit
open Od
attribute [local go_sem] lvl_field1

theorem item_load {w : World} {b : Nat} {v0 v1 v2 v3 v4 v5 v6 v7 : Value} (h : w.heap[b]? = some (.cells #[v0, v1, v2, v3, v4, v5, v6, v7] 58 (0, 0))) : (loadVar 58 ⟨b, 0, none⟩).run Try.prog w = .ok (.agg #[v0, v1, v2, v3, v4, v5, v6, v7]) w := by
  have hl : (loadCells ⟨b, 0, none⟩ 8).run Try.prog w = .ok #[v0, v1, v2, v3, v4, v5, v6, v7] w :=
    run_loadCells_list (P := Try.prog) w ⟨b, 0, none⟩ [v0, v1, v2, v3, v4, v5, v6, v7] (fun j v hv => by
      have := cell_of_row w b j _ _ _ h
      have e : (⟨b, 0, none⟩ : Addr).add j = ⟨b, j, none⟩ := by
        unfold Addr.add
        by_cases h0 : j = 0
        · subst h0; rfl
        · rw [if_neg h0]; simp
      rw [e, this]
      simpa using hv)
  simp [loadVar, Sem.run_bind, Try.isAgg58, Try.sizeOf58, hl]
theorem item_ret2 {fn : Func} {p q : Tmp} (h : fn.results = #[.cell p 58, .tmp q]) (tmps : Array Value) (w : World) (b : Nat) (v0 v1 v2 v3 v4 v5 v6 v7 : Value) (hp : tmps.getD p undef = .pointer (some ⟨b, 0, none⟩)) (hb : w.heap[b]? = some (.cells #[v0, v1, v2, v3, v4, v5, v6, v7] 58 (0, 0))) :
    (results fn tmps).run Try.prog w = .ok (.tuple #[.agg #[v0, v1, v2, v3, v4, v5, v6, v7], tmps.getD q undef]) w := by
  have hp' : tmps[p]?.getD undef = .pointer (some ⟨b, 0, none⟩) := by simpa using hp
  simp [results, h, hp', asAddr, item_load hb, Sem.run_bind]
theorem item_stored {w : World} {b : Nat} {T : TypeId} {a0 a1 a2 a3 a4 a5 a6 a7 : Value} (h : w.heap[b]? = some (.cells #[a0, a1, a2, a3, a4, a5, a6, a7] T (0, 0))) (x0 x1 x2 x3 x4 x5 x6 x7 : Value) :
    ((((((((w.setCell ⟨b, 0, none⟩ x0).setCell ⟨b, 1, none⟩ x1).setCell ⟨b, 2, none⟩ x2).setCell ⟨b, 3, none⟩ x3).setCell ⟨b, 4, none⟩ x4).setCell ⟨b, 5, none⟩ x5).setCell ⟨b, 6, none⟩ x6).setCell ⟨b, 7, none⟩ x7).heap[b]? = some (.cells #[x0, x1, x2, x3, x4, x5, x6, x7] T (0, 0)) := by
  have h : Lx.Blk w b T #[a0, a1, a2, a3, a4, a5, a6, a7] := h
  have := (((((((h.set_ 0 x0).set_ 1 x1).set_ 2 x2).set_ 3 x3).set_ 4 x4).set_ 5 x5).set_ 6 x6).set_ 7 x7
  unfold Lx.Blk at this
  simpa using this
set_option maxRecDepth 100000 in
set_option maxHeartbeats 3200000 in
/-- The k-th scope has the name. -/
theorem find_at {w : World} {B vb k : Nat} {ls : List Lvl} {l : Lvl} (H : EnvAt w B vb ls) (hk : k < ls.length) (h0 : 0 < k) (hl : ls[k] = l) (m : Nm) (hin : m ∈ l.ks) :
    Calls Try.prog 23 #[.pointer (some ⟨vb, 0, none⟩), .int .i64 k, .string (S m)] w fun r w' => r = .returned (.tuple #[itm (l.f m), .bool true]) ∧ w.grownBy w' none := by
  have hlm : l ∈ ls := hl ▸ List.getElem_mem hk
  obtain ⟨ho1, ho2⟩ := H.one l hlm m hin
  obtain ⟨fn, fk, ft, fv, fl, fa, fm, fx, hfi⟩ : ∃ a b c d e' g h x, l.f m = (⟨a, b, c, d, e', g, h⟩, x) := ⟨_, _, _, _, _, _, _, _, rfl⟩
  have HFI := Lib.hid hfi
  rw [hfi] at ho1 ho2 ⊢
  have sv1 := fun (wx : World) (a : Addr) (m : Mode) => run_store Try.prog wx a fv m ho1
  have sv2 := fun (wx : World) (a : Addr) (m : Mode) => run_store Try.prog wx a fx m ho2
  have HMD := Lib.hid (fun (o : Obj) => made_any (H.grown (World.grownBy_alloc w o none)))
  obtain ⟨h0b, g, cap, h1, h2, h3, h4⟩ := H.spots
  obtain ⟨q0, q1⟩ := h4 k hk
  rw [hl] at q0 q1
  have l1 := fun o => ((H.maps l hlm).2.alloc o).look_in Try.underlying43 Try.underlying9 hin true
  simp only [HFI.out, itm, Ent.item, if_true] at l1
  have x1 : (0 : Int) < (k : Int) := by omega
  have x2 : ¬ (k : Int) < 0 := by omega
  have x3 : (k : Int) < (ls.length : Int) := by omega
  have hmx := H.max
  have HA := Lib.hid (World.grownBy_alloc w)
  unfold itm Ent.item
  dsimp only
  clear H hfi hl hin hlm h4
  generalize ls.length = n at *
  go_enter Try.func23, Try.ntmps23
  go_wp2_with fail
  with_reducible refine (HMD.out _).mono ?_
  rintro r w2 ⟨rfl, hw⟩
  have hw2 := hw.symm
  subst hw2
  clear hw
  go_wp2
  go_loopg [1] 0 (fun gh sk wr => sk = .int .i64 (k : Nat) ∧ wr = w.alloc (.cells #[.string ⟨#[]⟩, .int .u8 0, .int .i64 0, .nilIface, .int .i64 0, .int .i64 0, .string ⟨#[]⟩, .slice none 0 0] 58))
  case atStart => exact ⟨rfl, rfl⟩
  case round =>
    obtain ⟨rfl, rfl⟩ := hrel
    go_wp2
    refine bodyPost_ret (item_ret2 rfl _ _ w.heap.size _ _ _ _ _ _ _ _ rfl ((heap_alloc_old _ _ (by simp)).trans (heap_alloc_new w _))) rfl ?_
    exact ⟨rfl, grown_trans (HA.out _ none) (World.grownBy_alloc _ _ none)⟩
set_option maxRecDepth 100000 in
set_option maxHeartbeats 3200000 in
/-- A closed scope lacks the name; the outermost scope has it. -/
theorem find_base {w : World} {B vb k : Nat} {ls : List Lvl} {l l0 : Lvl} (H : EnvAt w B vb ls) (hk : k < ls.length) (h0 : 0 < k) (hl : ls[k] = l) (hl0 : ls[0]'(by omega) = l0) (m : Nm) (hno : m ∉ l.ks) (hcl : l.cl = true) (hin : m ∈ l0.ks) :
    Calls Try.prog 23 #[.pointer (some ⟨vb, 0, none⟩), .int .i64 k, .string (S m)] w fun r w' => r = .returned (.tuple #[itm (l0.f m), .bool true]) ∧ w.grownBy w' none := by
  have hlm : l ∈ ls := hl ▸ List.getElem_mem hk
  have hlm0 : l0 ∈ ls := hl0 ▸ List.getElem_mem (by omega)
  obtain ⟨ho1, ho2⟩ := H.one l0 hlm0 m hin
  obtain ⟨fn, fk, ft, fv, fl, fa, fm, fx, hfi⟩ : ∃ a b c d e' g h x, l0.f m = (⟨a, b, c, d, e', g, h⟩, x) := ⟨_, _, _, _, _, _, _, _, rfl⟩
  have HFI := Lib.hid hfi
  rw [hfi] at ho1 ho2 ⊢
  have sv1 := fun (wx : World) (a : Addr) (m : Mode) => run_store Try.prog wx a fv m ho1
  have sv2 := fun (wx : World) (a : Addr) (m : Mode) => run_store Try.prog wx a fx m ho2
  have HMD := Lib.hid (fun (o : Obj) => made_any (H.grown (World.grownBy_alloc w o none)))
  obtain ⟨h0b, g, cap, h1, h2, h3, h4⟩ := H.spots
  obtain ⟨q0, q1⟩ := h4 k hk
  obtain ⟨q2, q3⟩ := h4 0 (by omega)
  rw [hl, hcl] at q0
  rw [hl] at q1
  rw [hl0] at q2 q3
  simp only [Nat.zero_mul, Nat.zero_add] at q2 q3
  have nl := fun o => ((H.maps l hlm).2.alloc o).look_out Try.underlying43 Try.underlying9 hno (zero_item _) true
  have l1 := fun o o2 => (((H.maps l0 hlm0).2.alloc o).alloc o2).look_in Try.underlying43 Try.underlying9 hin true
  simp only [HFI.out, itm, Ent.item, if_true] at l1
  simp only [if_true] at nl
  have x1 : (0 : Int) < (k : Int) := by omega
  have x2 : ¬ (k : Int) < 0 := by omega
  have x3 : (k : Int) < (ls.length : Int) := by omega
  have hmx := H.max
  have HA := Lib.hid (World.grownBy_alloc w)
  unfold itm Ent.item
  dsimp only
  clear H hfi hl hl0 hin hlm hlm0 hno hcl h4
  generalize ls.length = n at *
  go_enter Try.func23, Try.ntmps23
  go_wp2_with fail
  with_reducible refine (HMD.out _).mono ?_
  rintro r w2 ⟨rfl, hw⟩
  have hw2 := hw.symm
  subst hw2
  clear hw
  go_wp2
  go_loopg [1] 0 (fun gh sk wr => sk = .int .i64 (k : Nat) ∧ wr = w.alloc (.cells #[.string ⟨#[]⟩, .int .u8 0, .int .i64 0, .nilIface, .int .i64 0, .int .i64 0, .string ⟨#[]⟩, .slice none 0 0] 58))
  case atStart => exact ⟨rfl, rfl⟩
  case round =>
    obtain ⟨rfl, rfl⟩ := hrel
    go_wp2
    refine bodyPost_ret (item_ret2 rfl _ _ w.heap.size _ _ _ _ _ _ _ _ rfl ((heap_alloc_old _ _ (by simp; omega)).trans ((heap_alloc_old _ _ (by simp)).trans (heap_alloc_new w _)))) rfl ?_
    exact ⟨rfl, grown_trans (grown_trans (HA.out _ none) (World.grownBy_alloc _ _ none)) (World.grownBy_alloc _ _ none)⟩
set_option maxRecDepth 100000 in
set_option maxHeartbeats 3200000 in
/-- A closed scope lacks the name; the outermost scope lacks it. -/
theorem find_none {w : World} {B vb k : Nat} {ls : List Lvl} {l l0 : Lvl} (H : EnvAt w B vb ls) (hk : k < ls.length) (h0 : 0 < k) (hl : ls[k] = l) (hl0 : ls[0]'(by omega) = l0) (m : Nm) (hno : m ∉ l.ks) (hcl : l.cl = true) (hin : m ∉ l0.ks) :
    Calls Try.prog 23 #[.pointer (some ⟨vb, 0, none⟩), .int .i64 k, .string (S m)] w fun r w' => r = .returned (.tuple #[.agg #[.string ⟨#[]⟩, .int .u8 0, .int .i64 0, .nilIface, .int .i64 0, .int .i64 0, .string ⟨#[]⟩, .slice none 0 0], .bool false]) ∧ w.grownBy w' none := by
  have hlm : l ∈ ls := hl ▸ List.getElem_mem hk
  have hlm0 : l0 ∈ ls := hl0 ▸ List.getElem_mem (by omega)
  have HMD := Lib.hid (fun (o : Obj) => made_any (H.grown (World.grownBy_alloc w o none)))
  obtain ⟨h0b, g, cap, h1, h2, h3, h4⟩ := H.spots
  obtain ⟨q0, q1⟩ := h4 k hk
  obtain ⟨q2, q3⟩ := h4 0 (by omega)
  rw [hl, hcl] at q0
  rw [hl] at q1
  rw [hl0] at q2 q3
  simp only [Nat.zero_mul, Nat.zero_add] at q2 q3
  have nl := fun o => ((H.maps l hlm).2.alloc o).look_out Try.underlying43 Try.underlying9 hno (zero_item _) true
  have l1 := fun o o2 => (((H.maps l0 hlm0).2.alloc o).alloc o2).look_out Try.underlying43 Try.underlying9 hin (zero_item _) true
  simp only [if_true] at l1
  simp only [if_true] at nl
  have x1 : (0 : Int) < (k : Int) := by omega
  have x2 : ¬ (k : Int) < 0 := by omega
  have x3 : (k : Int) < (ls.length : Int) := by omega
  have hmx := H.max
  have HA := Lib.hid (World.grownBy_alloc w)
  clear H hl hl0 hin hlm hlm0 hno hcl h4
  generalize ls.length = n at *
  go_enter Try.func23, Try.ntmps23
  go_wp2_with fail
  with_reducible refine (HMD.out _).mono ?_
  rintro r w2 ⟨rfl, hw⟩
  have hw2 := hw.symm
  subst hw2
  clear hw
  go_wp2
  go_loopg [1] 0 (fun gh sk wr => sk = .int .i64 (k : Nat) ∧ wr = w.alloc (.cells #[.string ⟨#[]⟩, .int .u8 0, .int .i64 0, .nilIface, .int .i64 0, .int .i64 0, .string ⟨#[]⟩, .slice none 0 0] 58))
  case atStart => exact ⟨rfl, rfl⟩
  case round =>
    obtain ⟨rfl, rfl⟩ := hrel
    go_wp2
    refine bodyPost_ret (item_ret2 rfl _ _ w.heap.size _ _ _ _ _ _ _ _ rfl ((heap_alloc_old _ _ (by simp; omega)).trans ((heap_alloc_old _ _ (by simp)).trans (heap_alloc_new w _)))) rfl ?_
    exact ⟨rfl, grown_trans (grown_trans (HA.out _ none) (World.grownBy_alloc _ _ none)) (World.grownBy_alloc _ _ none)⟩
set_option maxRecDepth 100000 in
set_option maxHeartbeats 3200000 in
theorem Find_any {w : World} {B vb : Nat} {ls : List Lvl} (H : EnvAt w B vb ls) (hn : ls.length = 3) (m : Nm) (x : Ent × Value) (is : Bool) (ho1 : x.1.v.oneCell' = true) (ho2 : x.2.oneCell' = true)
    (hf : ∀ o, Calls Try.prog 23 #[.pointer (some ⟨vb, 0, none⟩), .int .i64 2, .string (S m)] (w.alloc o) fun r w' => r = .returned (.tuple #[itm x, .bool is]) ∧ (w.alloc o).grownBy w' none) :
    Calls Try.prog 11 #[.pointer (some ⟨vb, 0, none⟩), .string (S m)] w fun r w' => r = .returned (.tuple #[x.1.val, .bool is]) ∧ w.grownBy w' none := by
  obtain ⟨⟨fn, fk, ft, fv, fl, fa, fm⟩, fx⟩ := x
  dsimp only at ho1 ho2
  unfold itm Ent.item at hf
  dsimp only at hf
  have sv1 := fun (wx : World) (a : Addr) (m : Mode) => run_store Try.prog wx a fv m ho1
  have sv2 := fun (wx : World) (a : Addr) (m : Mode) => run_store Try.prog wx a fx m ho2
  have HF := Lib.hid hf
  have hd : ∀ (o : Obj), Calls Try.prog 16 #[.pointer (some ⟨vb, 0, none⟩)] (w.alloc o) fun e w' => e = .returned (.int .i64 3) ∧ w' = w.alloc o := fun o => (deep_any (H.grown (World.grownBy_alloc w o none))).mono fun e w' ⟨h1, h2⟩ => ⟨by rw [h1, hn]; rfl, h2⟩
  have HD := Lib.hid hd
  have HA := Lib.hid (World.grownBy_alloc w)
  unfold Ent.val
  dsimp only
  clear H hf hd hn
  go_enter Try.func11, Try.ntmps11
  go_wp2_with fail
  with_reducible refine (HD.out _).mono ?_
  rintro r w2 ⟨rfl, hw⟩
  have hw2 := hw.symm
  subst hw2
  clear hw
  go_wp2_with fail
  with_reducible refine (HF.out _).mono ?_
  rintro r w3 ⟨rfl, hg3⟩
  have HZB := Lib.hid (fun (o : Obj) (j : Nat) => boxed (w := w) (w' := w3.alloc o) (grown_trans hg3 (World.grownBy_alloc w3 o none)) j)
  have hzb := fun (o : Obj) => ((grown_trans hg3 (World.grownBy_alloc w3 o none)).block w.heap.size (by simp) (by simp)).trans (heap_alloc_new w _)
  have zf := fun o => unfrozen_blk (hzb o)
  have z0 := fun o => HZB.out o 0
  have z1 := fun o => HZB.out o 1
  have z2 := fun o => HZB.out o 2
  have z3 := fun o => HZB.out o 3
  have z4 := fun o => HZB.out o 4
  have z5 := fun o => HZB.out o 5
  have z6 := fun o => HZB.out o 6
  simp only [List.getElem?_toArray, List.getElem?_cons_zero, List.getElem?_cons_succ] at z0 z1 z2 z3 z4 z5 z6
  have HZH := Lib.hid hzb
  have HG := Lib.hid (grown_trans (HA.out _ none) hg3)
  clear hg3 hzb
  go_wp2
  refine bodyPost_ret (ent_ret2 rfl _ _ w.heap.size _ _ _ _ _ _ _ rfl (ent_stored (HZH.out _) _ _ _ _ _ _ _)) rfl ?_
  refine ⟨rfl, ?_⟩
  repeat (with_reducible refine grown_set ?_ (by simp))
  with_reducible exact grown_alloc HG.out
set_option maxRecDepth 100000 in
set_option maxHeartbeats 3200000 in
theorem Outer_any {w : World} {B vb : Nat} {ls : List Lvl} (H : EnvAt w B vb ls) (hn : ls.length = 3) (m : Nm) (x : Ent × Value) (is : Bool) (ho1 : x.1.v.oneCell' = true) (ho2 : x.2.oneCell' = true)
    (hf : ∀ o, Calls Try.prog 23 #[.pointer (some ⟨vb, 0, none⟩), .int .i64 1, .string (S m)] (w.alloc o) fun r w' => r = .returned (.tuple #[itm x, .bool is]) ∧ (w.alloc o).grownBy w' none) :
    Calls Try.prog 12 #[.pointer (some ⟨vb, 0, none⟩), .string (S m)] w fun r w' => r = .returned (.tuple #[x.1.val, .bool is]) ∧ w.grownBy w' none := by
  obtain ⟨⟨fn, fk, ft, fv, fl, fa, fm⟩, fx⟩ := x
  dsimp only at ho1 ho2
  unfold itm Ent.item at hf
  dsimp only at hf
  have sv1 := fun (wx : World) (a : Addr) (m : Mode) => run_store Try.prog wx a fv m ho1
  have sv2 := fun (wx : World) (a : Addr) (m : Mode) => run_store Try.prog wx a fx m ho2
  have HF := Lib.hid hf
  have hd : ∀ (o : Obj), Calls Try.prog 16 #[.pointer (some ⟨vb, 0, none⟩)] (w.alloc o) fun e w' => e = .returned (.int .i64 3) ∧ w' = w.alloc o := fun o => (deep_any (H.grown (World.grownBy_alloc w o none))).mono fun e w' ⟨h1, h2⟩ => ⟨by rw [h1, hn]; rfl, h2⟩
  have HD := Lib.hid hd
  have HA := Lib.hid (World.grownBy_alloc w)
  unfold Ent.val
  dsimp only
  clear H hf hd hn
  go_enter Try.func12, Try.ntmps12
  go_wp2_with fail
  with_reducible refine (HD.out _).mono ?_
  rintro r w2 ⟨rfl, hw⟩
  have hw2 := hw.symm
  subst hw2
  clear hw
  go_wp2_with fail
  with_reducible refine (HF.out _).mono ?_
  rintro r w3 ⟨rfl, hg3⟩
  have HZB := Lib.hid (fun (o : Obj) (j : Nat) => boxed (w := w) (w' := w3.alloc o) (grown_trans hg3 (World.grownBy_alloc w3 o none)) j)
  have hzb := fun (o : Obj) => ((grown_trans hg3 (World.grownBy_alloc w3 o none)).block w.heap.size (by simp) (by simp)).trans (heap_alloc_new w _)
  have zf := fun o => unfrozen_blk (hzb o)
  have z0 := fun o => HZB.out o 0
  have z1 := fun o => HZB.out o 1
  have z2 := fun o => HZB.out o 2
  have z3 := fun o => HZB.out o 3
  have z4 := fun o => HZB.out o 4
  have z5 := fun o => HZB.out o 5
  have z6 := fun o => HZB.out o 6
  simp only [List.getElem?_toArray, List.getElem?_cons_zero, List.getElem?_cons_succ] at z0 z1 z2 z3 z4 z5 z6
  have HZH := Lib.hid hzb
  have HG := Lib.hid (grown_trans (HA.out _ none) hg3)
  clear hg3 hzb
  go_wp2
  refine bodyPost_ret (ent_ret2 rfl _ _ w.heap.size _ _ _ _ _ _ _ rfl (ent_stored (HZH.out _) _ _ _ _ _ _ _)) rfl ?_
  refine ⟨rfl, ?_⟩
  repeat (with_reducible refine grown_set ?_ (by simp))
  with_reducible exact grown_alloc HG.out
end Go.Proofs.Ytibpekgmgidebaa.Sc
