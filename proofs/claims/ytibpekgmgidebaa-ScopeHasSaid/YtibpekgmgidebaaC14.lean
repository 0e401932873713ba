/- Clone, Unit. -/
import Derived.Test.YtibpekgmgidebaaC13
set_option linter.unusedSimpArgs false
set_option linter.unusedVariables false
namespace Go.Proofs.Ytibpekgmgidebaa.Sc
open Go.RowKit
open Od
open Lx (EnvS isName Name_any)
attribute [local go_sem] lvl_field1

theorem infoE : (Try.prog.info? 31).map (fun i => (i.zero, i.size)) = some (some (.agg #[.string ⟨#[]⟩, .int .u8 0, .int .i64 0, .nilIface, .int .i64 0, .int .i64 0, .string ⟨#[]⟩]), 7) := by kernel_rfl
theorem infoEb : (Try.prog.info? 31).map (fun i => decide (i.bytes ≤ 1000)) = some true := by kernel_rfl
theorem info2 : ∃ i, Try.prog.info? 31 = some i ∧ i.zero = some (.agg #[.string ⟨#[]⟩, .int .u8 0, .int .i64 0, .nilIface, .int .i64 0, .int .i64 0, .string ⟨#[]⟩]) ∧ i.size = 7 ∧ i.bytes ≤ 1000 := by
  have h1 := infoE
  have h2 := infoEb
  rcases hi : Try.prog.info? 31 with _ | i
  · rw [hi] at h1; cases h1
  · rw [hi] at h1 h2
    simp only [Option.map_some, Option.some.injEq, Prod.mk.injEq, decide_eq_true_eq] at h1 h2
    exact ⟨i, rfl, h1.1, h1.2, h2⟩
set_option maxRecDepth 100000 in
set_option maxHeartbeats 3200000 in
theorem clone_any {w : World} {b : Nat} {v0 v1 v2 v3 v4 v5 v6 : Value} (hb : w.heap[b]? = some (.cells #[v0, v1, v2, v3, v4, v5, v6] 31 (0, 0))) (h1 : ∀ v ∈ [v0, v1, v2, v3, v4, v5, v6], v.oneCell' = true) :
    Calls Try.prog 24 #[.slice (some ⟨b, 0, none⟩) 1 1] w fun r w' => ∃ g cap cur, r = .returned (.slice (some ⟨g, 0, none⟩) 1 cap) ∧ w.grownBy w' none ∧ w.heap.size ≤ g ∧ w'.heap[g]? = some (.cells cur 31 (0, 0)) ∧ cur.toList.take 7 = [v0, v1, v2, v3, v4, v5, v6] := by
  obtain ⟨i0, hi0, hz0, hz1, hz2⟩ := info2
  have HB := Lib.hid hb
  have H1 := Lib.hid h1
  have HM := Lib.hid (World.ownsRow_made (base := w.heap.size) (e := 31) (size := 7) w #[] 0 (Nat.le_refl _) (by unfold maxLen; omega) rfl)
  have HNW := Lib.hid (show ∀ j u, [v0, v1, v2, v3, v4, v5, v6][j]? = some u → (w.alloc (.cells #[] 31)).cell? ((⟨b, 0, none⟩ : Addr).add j) = some u from World.news_of_block (cs := #[v0, v1, v2, v3, v4, v5, v6]) ((heap_alloc_old w _ (Array.getElem?_eq_some_iff.1 hb).1).trans hb))
  have he : (binOp .eql 38 (.slice (some ⟨b, 0, none⟩) 1 1) (.slice none 0 0)).run Try.prog w = .ok (.bool false) w := by kernel_rfl
  clear hb h1
  go_enter Try.func24, Try.ntmps24
  go_wp2_with (at_builtin; refine wpList_append_lies _ rfl _ _ _ rfl w.heap.size 31 i0 _ 7 i0.bytes Try.underlying38 hi0 hz0 hz1 rfl rfl (by omega) _ _ _ rfl HM.out ⟨b, 0, none⟩ 1 1 [v0, v1, v2, v3, v4, v5, v6] rfl rfl HNW.out H1.out (by omega) (by unfold maxLen; omega) (by omega) (by simp) (w.heap.size + 1) (by simp) ?_; intro g cap w3 hown hgrow hor hlt; have HO := Lib.hid (And.intro hown (And.intro hgrow hor)); clear hown hgrow hor)
  go_ret
  obtain ⟨hown, hgrow, hor⟩ := HO.out
  obtain ⟨cur, b1, b2, b3⟩ := own_blk hown
  refine ⟨g, cap, cur, rfl, ?_, b1, b2, b3⟩
  have ha := World.grownBy_alloc w (.cells #[] 31) none
  exact ⟨hgrow.os.trans ha.os, hgrow.tape.trans ha.tape, hgrow.output.trans ha.output, Nat.le_trans ha.size hgrow.size, fun k hk hr => (hgrow.block k (by simp; omega) (fun e => by have e : some k = some w.heap.size := e; injection e; omega)).trans (ha.block k hk hr)⟩
theorem grown_refl (w : World) : w.grownBy w none := ⟨rfl, rfl, rfl, Nat.le_refl _, fun _ _ _ => rfl⟩
def eU (m : Nm) : Ent := ⟨m, 7, 0, .nilIface, 0, 0, ⟨#[]⟩⟩
/-- The unit is in the innermost scope, with a row of its own. -/
def UnitR (w w' : World) (B vb : Nat) (ls : List Lvl) (l : Lvl) (m : Nm) (xs : List Value) : Prop :=
  ∃ g cap cur, EnvAt w' B vb (ls ++ [⟨l.cl, l.b, l.ks ++ [m], updI l.f m (eU m, .slice (some ⟨g, 0, none⟩) 1 cap)⟩]) ∧ w.grownBy w' (some l.b) ∧ w.heap.size ≤ g ∧ w'.heap[g]? = some (.cells cur 31 (0, 0)) ∧ cur.toList.take 7 = xs
theorem unit_end {w w4 : World} {B vb : Nat} {ls : List Lvl} {l : Lvl} (H : EnvAt w B vb (ls ++ [l])) (hg : w.grownBy w4 none) {m : Nm} (hm : m ∉ l.ks) {g cap : Nat} {cur : Array Value} {xs : List Value} (hgl : w.heap.size ≤ g) (hc : w4.heap[g]? = some (.cells cur 31 (0, 0))) (ht : cur.toList.take 7 = xs) :
    ∃ w5, (Instr.mapUpdate 43 (.map (some l.b)) (.string (S m)) (.agg #[.string (S m), .int .u8 7, .int .i64 0, .nilIface, .int .i64 0, .int .i64 0, .string ⟨#[]⟩, .slice (some ⟨g, 0, none⟩) 1 cap])).run Try.prog w4 = .ok () w5 ∧ UnitR w w5 B vb ls l m xs := by
  have H4 := H.grown hg
  obtain ⟨m1, m2⟩ := H4.maps l (by simp)
  obtain ⟨w5, hrun, hm5, hg5⟩ := m2.put Try.underlying43 Try.underlying9 m (Ent.item (eU m) (.slice (some ⟨g, 0, none⟩) 1 cap))
  have hm5 := (show _ = _ from itm_upd l.f m (eU m, .slice (some ⟨g, 0, none⟩) 1 cap)) ▸ hm5
  rw [if_neg hm] at hm5
  refine ⟨w5, hrun, g, cap, cur, EnvAt.set H4 hg5 hm5 ?_, grown_trans hg hg5, hgl, (hg5.block g (Array.getElem?_eq_some_iff.1 hc).1 ?_).trans hc, ht⟩
  · intro k hk
    unfold updI
    split
    · exact ⟨rfl, rfl⟩
    · rename_i hne
      exact H.one l (by simp) k (by simp only [List.mem_append, List.mem_singleton] at hk; exact hk.resolve_right hne)
  · intro e
    injection e with e
    have := ((H.maps l (by simp)).2).lt
    omega
set_option maxRecDepth 100000 in
set_option maxHeartbeats 6400000 in
theorem unit_any {w : World} {B vb b : Nat} {ls : List Lvl} {l : Lvl} (H : EnvAt w B vb (ls ++ [l])) (E : EnvS w) (m : Nm) (hnm : isName m = true) (hin : m ∉ l.ks) {v0 v1 v2 v3 v4 v5 v6 : Value} (hb : w.heap[b]? = some (.cells #[v0, v1, v2, v3, v4, v5, v6] 31 (0, 0))) (h1 : ∀ v ∈ [v0, v1, v2, v3, v4, v5, v6], v.oneCell' = true) :
    Calls Try.prog 13 #[.pointer (some ⟨vb, 0, none⟩), .string (S m), .slice (some ⟨b, 0, none⟩) 1 1] w fun r w' => r = .returned (.int .i64 0) ∧ UnitR w w' B vb ls l m [v0, v1, v2, v3, v4, v5, v6] := by
  have HA := Lib.hid (fun (o : Obj) => World.grownBy_alloc w o none)
  have HM := Lib.hid (show ∀ (wx : World), w.grownBy wx none → Calls Try.prog 19 #[.pointer (some ⟨vb, 0, none⟩), .agg #[.string (S m), .int .u8 7, .int .i64 0, .nilIface, .int .i64 0, .int .i64 0, .string ⟨#[]⟩], .bool false] wx (fun r w' => r = .returned (.int .i64 0) ∧ wx.grownBy w' none) from fun wx hg => may_out (H.grown hg) (envS_grown E hg (by simp)) (eU m) hnm (by show 1 ≤ 7 ∧ 7 ≤ 9; omega) hin false)
  have HTP := Lib.hid (fun (wx : World) (hg : w.grownBy wx none) => top_any (H.grown hg))
  have HCL := Lib.hid (fun (wx : World) (hg : w.grownBy wx none) => clone_any ((hg.block b (Array.getElem?_eq_some_iff.1 hb).1 (by simp)).trans hb) h1)
  have HEN := Lib.hid (fun (w4 : World) (hg : w.grownBy w4 none) (g cap : Nat) (cur : Array Value) (hgl : w.heap.size ≤ g) (hc : w4.heap[g]? = some (.cells cur 31 (0, 0))) (ht : cur.toList.take 7 = [v0, v1, v2, v3, v4, v5, v6]) => unit_end H hg hin (cap := cap) hgl hc ht)
  clear H E hnm hin hb h1
  go_enter Try.func13, Try.ntmps13
  go_wp2_with fail
  with_reducible refine (HM.out _ (HA.out _)).mono ?_
  rintro r w2 ⟨rfl, hg2⟩
  have HG2 := Lib.hid (grown_drew (grown_trans (HA.out _) hg2))
  have HBX := Lib.hid (fun (w3 : World) (hg : w2.drew.grownBy w3 none) (j : Nat) => boxed (w := w) (o := #[.string (S m), .int .u8 7, .int .i64 0, .nilIface, .int .i64 0, .int .i64 0, .string ⟨#[]⟩]) (t := 31) (w' := w3) (grown_trans (grown_drew hg2) hg) j)
  have HRF := Lib.hid (grown_refl w2.drew)
  have a0 := HBX.out w2.drew HRF.out 0
  have a1 := HBX.out w2.drew HRF.out 1
  have a2 := HBX.out w2.drew HRF.out 2
  have a3 := HBX.out w2.drew HRF.out 3
  have a4 := HBX.out w2.drew HRF.out 4
  have a5 := HBX.out w2.drew HRF.out 5
  have a6 := HBX.out w2.drew HRF.out 6
  simp only [List.getElem?_toArray, List.getElem?_cons_zero, List.getElem?_cons_succ] at a0 a1 a2 a3 a4 a5 a6
  clear hg2
  go_wp2
  go_region_with (first
    | (go_at_call 22; (with_reducible refine (HTP.out _ HG2.out).mono ?_); rintro r w3 ⟨rfl, hg3⟩
       have HG3 := Lib.hid hg3
       have c0 := HBX.out w3 hg3 0
       have c1 := HBX.out w3 hg3 1
       have c2 := HBX.out w3 hg3 2
       have c3 := HBX.out w3 hg3 3
       have c4 := HBX.out w3 hg3 4
       have c5 := HBX.out w3 hg3 5
       have c6 := HBX.out w3 hg3 6
       simp only [List.getElem?_toArray, List.getElem?_cons_zero, List.getElem?_cons_succ] at c0 c1 c2 c3 c4 c5 c6
       clear hg3)
    | (go_at_call 24; (with_reducible refine (HCL.out _ (grown_trans HG2.out HG3.out)).mono ?_); rintro r w4 ⟨g, cap, cur, rfl, hg4, hgl, hgc, hgt⟩
       have d0 := HBX.out w4 (grown_trans HG3.out hg4) 0
       have d1 := HBX.out w4 (grown_trans HG3.out hg4) 1
       have d2 := HBX.out w4 (grown_trans HG3.out hg4) 2
       have d3 := HBX.out w4 (grown_trans HG3.out hg4) 3
       have d4 := HBX.out w4 (grown_trans HG3.out hg4) 4
       have d5 := HBX.out w4 (grown_trans HG3.out hg4) 5
       have d6 := HBX.out w4 (grown_trans HG3.out hg4) 6
       simp only [List.getElem?_toArray, List.getElem?_cons_zero, List.getElem?_cons_succ] at d0 d1 d2 d3 d4 d5 d6
       obtain ⟨w5, hrun5, hR5⟩ := HEN.out w4 (grown_trans (grown_trans HG2.out HG3.out) hg4) g cap cur (Nat.le_trans (grown_trans HG2.out HG3.out).size hgl) hgc hgt
       have HR5 := Lib.hid hR5
       clear hg4 hgl hgc hgt hR5))
  all_goals
    go_wp2
    go_ret
    exact ⟨rfl, HR5.out⟩
end Go.Proofs.Ytibpekgmgidebaa.Sc
