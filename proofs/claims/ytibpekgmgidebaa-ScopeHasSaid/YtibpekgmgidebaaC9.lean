/- Names. -/
import Derived.Test.YtibpekgmgidebaaC8
set_option linter.unusedSimpArgs false
set_option linter.unusedVariables false
namespace Go.Proofs.Ytibpekgmgidebaa.Sc
open Go.RowKit
open Od
attribute [local go_sem] lvl_field1
attribute [local go_sem] Oper.semAt_some

theorem below_grown {a b : World} (h : a.grownBy b none) : Below a.heap.size a b := ⟨h.os, h.tape, h.output, h.size, fun k hk => h.block k hk (by simp)⟩
theorem own_down {w : World} {b b' : Nat} {e : TypeId} {size : Nat} {v : Value} {n : Nat} {xs : List Value} (h : w.ownsRow b e size v n xs) (hb : b' ≤ b) : w.ownsRow b' e size v n xs := by
  obtain ⟨h1, h2⟩ := h
  refine ⟨h1, ?_⟩
  rcases h2 with h2 | ⟨g, cap, cur, q1, q2, q3⟩
  · exact .inl h2
  · exact .inr ⟨g, cap, cur, q1, Nat.le_trans hb q2, q3⟩
set_option maxRecDepth 100000 in
set_option maxHeartbeats 3200000 in
theorem names_any {w : World} {B vb : Nat} {ls : List Lvl} {l : Lvl} (H : EnvAt w B vb (ls ++ [l])) (hl : ∀ k ∈ l.ks, k.length ≤ 100) (hn : l.ks.length ≤ 1000) :
    Calls Try.prog 9 #[.pointer (some ⟨vb, 0, none⟩)] w fun r w' => ∃ (v : Value) (ss : List (List UInt8)), r = .returned v ∧ ss.Perm l.ks ∧ w'.ownsRow w.heap.size 9 1 v ss.length ((ss.mergeSort (fun x y => decide (x ≤ y))).map encStr) ∧ Below w.heap.size w w' := by
  have HMD := Lib.hid (made_any H)
  have HTP := Lib.hid (top_any H)
  have HOW := Lib.hid (fun (wx : World) (hg : w.grownBy wx none) => IsM.owns (((H.grown hg).maps l (by simp)).2) (fun k hk => by have := hl k hk; unfold maxLen; omega) (by unfold maxLen; omega))
  have HSZ := Lib.hid hn
  clear H hl hn
  refine (callsIn_wide (n := 6)).1 ?_
  have hfK : Fence.wide.fn 21 := trivial
  have hfS : Fence.wide.fn 20 := trivial
  refine callsIn_of_wp Try.func9 rfl trivial ?_ rfl
  simp only [Try.ntmps9, List.size_toArray, List.length_cons, List.length_nil, Nat.reduceAdd, Nat.reduceSub, Array.replicate_succ, Array.replicate_zero, List.push_toArray, List.append_toArray, List.nil_append, List.cons_append]
  gi_wp2
  refine ⟨trivial, ?_⟩
  with_reducible refine (callsIn_wide.2 HMD.out).mono ?_
  rintro r w2 ⟨rfl, hw⟩
  have hw2 := hw.symm
  subst hw2
  clear hw
  gi_wp2
  refine ⟨trivial, ?_⟩
  with_reducible refine (callsIn_wide.2 HTP.out).mono ?_
  rintro r w3 ⟨rfl, hg3⟩
  have HG := Lib.hid hg3
  clear hg3
  gi_wp2
  refine (Try.maps_Keys_21 _ _).mono ?_
  rintro r w4 ⟨rfl, hw⟩
  subst hw
  gi_wp2
  obtain ⟨D0, hown, hperm, hsize⟩ := HOW.out w3 HG.out
  refine (Try.slices_Sorted_keys_20_21 l.b l.ks.length D0 R0 w3 hown (by rw [hsize]; have := HSZ.out; unfold maxLen; omega) (by rw [hsize]; have := HSZ.out; omega)).mono ?_
  rintro r w5 ⟨v, ss, rfl, hS, hrow, hnil, hb⟩
  have HR := Lib.hid (And.intro (hS.trans hperm) (And.intro hrow hb))
  clear hS hrow hnil hb hown hperm hsize
  gi_wp2
  go_ret
  have hg := HG.out
  have hB : Below w.heap.size w (w3.alloc (.cells #[.map (some l.b)] 43)) := (below_grown hg).alloc hg.size _
  exact ⟨v, ss, rfl, HR.out.1, own_down HR.out.2.1 hB.size, hB.trans (HR.out.2.2.mono hB.size)⟩
end Go.Proofs.Ytibpekgmgidebaa.Sc
