/- Open. -/
import Derived.Test.YtibpekgmgidebaaC9
import Derived.Deep.AppendLies
set_option linter.unusedSimpArgs false
set_option linter.unusedVariables false
namespace Go.Proofs.Ytibpekgmgidebaa.Sc
open Go.RowKit
open Od
attribute [local go_sem] lvl_field1

theorem infoL : (Try.prog.info? 45).map (fun i => (i.zero, i.size, i.bytes)) = some (some (.agg #[.bool false, .map none]), 2, 16) := by kernel_rfl
set_option maxRecDepth 100000 in
set_option maxHeartbeats 3200000 in
theorem open_any {w : World} {B vb : Nat} {ls : List Lvl} (H : EnvAt w B vb ls) (cl : Bool) (hn : ls.length ≤ 1000) :
    Calls Try.prog 6 #[.pointer (some ⟨vb, 0, none⟩), .bool cl] w fun r w' => r = .returned (.tuple #[]) ∧ ∃ f, EnvAt w' B vb (ls ++ [⟨cl, w.heap.size, [], f⟩]) ∧ Below B w w' := by
  have HMD := Lib.hid (made_any H)
  have HE := Lib.hid H
  obtain ⟨lo, ⟨g, cap, k1, k2, k3⟩, ne, maps, one, nd⟩ := H
  have hvb := (Array.getElem?_eq_some_iff.1 k1).1
  have h2 : w.cell? ⟨vb, 0, none⟩ = some (.slice (some ⟨g, 0, none⟩) ls.length cap) := by rw [cell_of_row _ _ _ _ _ _ k1]; rfl
  have h3 := unfrozen_blk k1 0
  obtain ⟨i0, hi0, hz0, hz1, hz2⟩ := info_parts infoL
  have hmm := @run_makeMap Try.prog
  have K1 := Lib.hid k1
  have K2 := Lib.hid k2
  have K3 := Lib.hid k3
  have LO := Lib.hid lo
  have MP := Lib.hid maps
  have ON := Lib.hid one
  have ND := Lib.hid nd
  have HN := Lib.hid hn
  have HVB := Lib.hid hvb
  have HNW := Lib.hid (show ∀ j u, [Value.bool cl, Value.map (some w.heap.size)][j]? = some u → ((w.alloc (.map #[] 0)).alloc (.cells #[.bool cl, .map (some w.heap.size)] 45)).cell? ((⟨w.heap.size + 1, 0, none⟩ : Addr).add j) = some u by
    have h := heap_alloc_new (w.alloc (.map #[] 0)) (.cells #[.bool cl, .map (some w.heap.size)] 45)
    rw [World.size_alloc] at h
    exact World.news_of_block (cs := #[.bool cl, .map (some w.heap.size)]) h)
  have HK3 := Lib.hid (fun (w3 : World) (hg : ((w.alloc (.map #[] 0)).alloc (.cells #[.bool cl, .map (some w.heap.size)] 45)).grownBy w3 (some g)) => show w3.heap[vb]? = some (.cells #[.slice (some ⟨g, 0, none⟩) ls.length cap] 48 (0, 0)) from (hg.block vb (by simp; omega) (fun e => k3 (by injection e with e; exact e.symm))).trans ((heap_alloc_old _ _ (by simp; omega)).trans ((heap_alloc_old _ _ hvb).trans k1)))
  clear k1 k2 k3 lo maps one nd ne hn hvb
  go_enter Try.func6, Try.ntmps6
  go_wp2_with fail
  with_reducible refine HMD.out.mono ?_
  rintro r w2 ⟨rfl, hw⟩
  have hw2 := hw.symm
  subst hw2
  clear hw
  go_wp2_with (at_builtin; refine wpList_append_lies _ rfl _ _ _ rfl B 45 i0 _ 2 16 Try.underlying46 hi0 hz0 hz1 hz2 rfl (by omega) _ _ _ rfl ((K2.out.alloc _).alloc _) ⟨w.heap.size + 1, 0, none⟩ 1 1 [.bool cl, .map (some w.heap.size)] rfl rfl HNW.out (fun v hv => by simp only [List.mem_cons, List.not_mem_nil, or_false] at hv; rcases hv with rfl | rfl <;> rfl) (by omega) (by have := HN.out; unfold maxLen; omega) (by have := HN.out; omega) (by have := HVB.out; have := LO.out; simp; omega) (w.heap.size + 2) (by simp) ?_; intro g' cap' w3 hown hgrow hor hlt; have hk3 := HK3.out w3 hgrow; have c3 := (cell_of_row _ _ 0 _ _ _ hk3).trans rfl; have f3 := unfrozen_blk hk3 0; have HO := Lib.hid (And.intro hown (And.intro hgrow (And.intro hor hk3))); clear hown hgrow hor hk3)
  go_end0
  obtain ⟨hown, hgrow, hor, hk3⟩ := HO.out
  refine ⟨rfl, fun _ => (⟨[], 0, 0, .nilIface, 0, 0, ⟨#[]⟩⟩, .nilIface), ?_, ?_⟩
  · have hgv : g' ≠ vb := by
      rcases hor with h | h
      · have h : some g = some g' := h
        injection h with h
        rw [← h]
        exact K3.out
      · have := HVB.out
        omega
    have hmk : ∀ (b : Nat) (ks : List Nm) (f : Nm → Value), b < w.heap.size + 1 → IsM (w.alloc (.map #[] 0)) b ks f → b ≠ vb → b ≠ g → IsM (w3.setCell ⟨vb, 0, none⟩ (.slice (some ⟨g', 0, none⟩) (ls.length + 1) cap')) b ks f := fun b ks f hb hm hbv hbg =>
      ((hm.alloc _).kept (hgrow.block b (by simp; omega) (fun e => hbg (by have e : some b = some g := e; injection e)))).setCell hbv _
    obtain ⟨cur, b1, b2, _⟩ := own_blk K2.out
    have hgl := (Array.getElem?_eq_some_iff.1 b2).1
    refine ⟨LO.out, ⟨g', cap', ?_, ?_, hgv⟩, by simp, fun x hx => ?_, fun x hx => ?_, ?_⟩
    · rw [List.length_append, List.length_singleton]
      have hB : Lx.Blk w3 vb 48 #[.slice (some ⟨g, 0, none⟩) ls.length cap] := hk3
      have := hB.set_ 0 (.slice (some ⟨g', 0, none⟩) (ls.length + 1) cap')
      exact this
    · rw [List.length_append, List.length_singleton, show rowL (ls ++ [(⟨cl, w.heap.size, [], fun _ => (⟨[], 0, 0, .nilIface, 0, 0, ⟨#[]⟩⟩, .nilIface)⟩ : Lvl)]) = rowL ls ++ [.bool cl, .map (some w.heap.size)] by simp [rowL]]
      exact own_kept hown (Below.heap_setCell _ _ _ _ hgv)
    · rw [List.mem_append, List.mem_singleton] at hx
      rcases hx with hx | rfl
      · obtain ⟨m1, m2⟩ := MP.out x hx
        have hlt := m2.lt
        obtain ⟨es, clock, m3, _⟩ := id m2
        have K1' := K1.out
        refine ⟨m1, hmk x.b x.ks _ (by omega) (m2.alloc _) (fun e => ?_) (fun e => ?_)⟩
        · rw [e, K1'] at m3; cases m3
        · rw [e, b2] at m3; cases m3
      · refine ⟨?_, hmk w.heap.size [] _ (by omega) (IsM.made w _) ?_ ?_⟩
        · have := LO.out; have := HVB.out; show B ≤ w.heap.size; omega
        · have := HVB.out; omega
        · omega
    · rw [List.mem_append, List.mem_singleton] at hx
      rcases hx with hx | rfl
      · exact ON.out x hx
      · intro k hk; simp at hk
    · rw [List.map_append, List.nodup_append]
      refine ⟨ND.out, by simp, fun a ha b hb => ?_⟩
      obtain ⟨x, hx, rfl⟩ := List.mem_map.1 ha
      simp only [List.map_cons, List.map_nil, List.mem_singleton] at hb
      have := (MP.out x hx).2.lt
      omega
  · have hB : Below B w ((w.alloc (.map #[] 0)).alloc (.cells #[.bool cl, .map (some w.heap.size)] 45)) := ((Below.refl B w).alloc (by have := LO.out; have := HVB.out; omega) _).alloc (by have := LO.out; have := HVB.out; simp; omega) _
    refine (hB.grown hgrow (by have := LO.out; have := HVB.out; simp; omega) (fun k e => ?_)).setCell LO.out _
    have e : some g = some k := e
    injection e with e
    obtain ⟨cur, b1, _⟩ := own_blk K2.out
    rw [← e]
    exact b1
end Go.Proofs.Ytibpekgmgidebaa.Sc
