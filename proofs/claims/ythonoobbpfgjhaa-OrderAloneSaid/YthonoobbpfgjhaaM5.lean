/- What each module needs, as a map; the first that is told twice. -/
import Derived.Test.YthonoobbpfgjhaaM4
import Derived.Carry
set_option linter.unusedSimpArgs false
set_option linter.unusedVariables false
namespace Go.Proofs.Ythonoobbpfgjhaa.Od
open Go.RowKit
/-- What is known of a second telling behind k modules. -/
def AgR (q : List Md) (k : Nat) (tw : Nm) (is : Bool) : Prop :=
  if is = true then again [] (nl q) = some tw else tw = [] ∧ again [] (nl q) = again (names (q.take k)).reverse (nl (q.drop k))
theorem AgR.start (q : List Md) : AgR q 0 [] false := by
  unfold AgR
  rw [if_neg (by simp)]
  exact ⟨rfl, by simp [names]⟩
theorem again_step {q : List Md} {k : Nat} (h : k < q.length) : again (names (q.take k)).reverse (nl (q.drop k)) = if q[k].1 ∈ names (q.take k) then some q[k].1 else again (names (q.take (k + 1))).reverse (nl (q.drop (k + 1))) := by
  rw [List.drop_eq_getElem_cons h]
  show again _ ((q[k].1, q[k].2.1) :: nl (q.drop (k + 1))) = _
  have e0 : again (names (q.take k)).reverse ((q[k].1, q[k].2.1) :: nl (q.drop (k + 1))) = if q[k].1 ∈ (names (q.take k)).reverse then some q[k].1 else again (q[k].1 :: (names (q.take k)).reverse) (nl (q.drop (k + 1))) := rfl
  rw [e0]
  have e : (names (q.take (k + 1))).reverse = q[k].1 :: (names (q.take k)).reverse := by
    rw [take_snoc' q k h]; unfold names; rw [List.map_append, List.reverse_append]; rfl
  rw [e]
  by_cases hm : q[k].1 ∈ names (q.take k)
  · rw [if_pos hm, if_pos (by simpa using hm)]
  · rw [if_neg hm, if_neg (by simpa using hm)]
theorem AgR.told {q : List Md} {k : Nat} {tw : Nm} (h : k < q.length) (H : AgR q k tw false) (ht : q[k].1 ∈ names (q.take k)) : AgR q (k + 1) q[k].1 true := by
  unfold AgR at H ⊢
  rw [if_neg (by simp)] at H
  rw [if_pos rfl, H.2, again_step h, if_pos ht]
theorem AgR.new {q : List Md} {k : Nat} {tw : Nm} {is : Bool} (h : k < q.length) (H : AgR q k tw is) (ht : q[k].1 ∉ names (q.take k)) : AgR q (k + 1) tw is := by
  unfold AgR at H ⊢
  cases is with
  | true => exact H
  | false =>
    rw [if_neg (by simp)] at H ⊢
    refine ⟨H.1, ?_⟩
    rw [H.2, again_step h, if_neg ht]
theorem AgR.over {q : List Md} {k : Nat} {tw : Nm} (H : AgR q k tw true) (j : Nat) : AgR q j tw true := H
theorem AgR.done {q : List Md} {tw : Nm} {is : Bool} (H : AgR q q.length tw is) : (is = true ∧ again [] (nl q) = some tw) ∨ (is = false ∧ tw = [] ∧ again [] (nl q) = none) := by
  unfold AgR at H
  cases is with
  | true => exact .inl ⟨rfl, H⟩
  | false =>
    rw [if_neg (by simp)] at H
    refine .inr ⟨rfl, H.1, ?_⟩
    rw [H.2]
    simp [nl, again]
/-- The map behind k modules. -/
structure NM (w : World) (b : Nat) (q : List Md) : Prop where
  is : ∃ ks, IsM w b ks (needV q) ∧ ∀ m, m ∈ ks ↔ lookM q m ≠ none
theorem NM.kept {w w' : World} {b : Nat} {q : List Md} (h : NM w b q) (hk : w'.heap[b]? = w.heap[b]?) : NM w' b q := by
  obtain ⟨ks, h1, h2⟩ := h.is
  exact ⟨ks, h1.kept hk, h2⟩
theorem NM.lt {w : World} {b : Nat} {q : List Md} (h : NM w b q) : b < w.heap.size := by
  obtain ⟨ks, h1, _⟩ := h.is
  exact h1.lt
theorem told_iff (q : List Md) (m : Nm) : m ∈ names q ↔ lookM q m ≠ none := by
  rw [Ne, lookM_none]
  constructor
  · intro h h'
    obtain ⟨x, hx, e⟩ := List.mem_map.1 h
    exact h' x hx e
  · intro h
    refine Decidable.byContradiction fun hm => h fun x hx e => hm (List.mem_map.2 ⟨x, hx, e⟩)
theorem NM.same {w : World} {b : Nat} {q : List Md} {y : Md} (h : NM w b q) (ht : y.1 ∈ names q) : NM w b (q ++ [y]) := by
  obtain ⟨ks, h1, h2⟩ := h.is
  have hl := (told_iff q y.1).1 ht
  have e : ∀ m, lookM (q ++ [y]) m = lookM q m := fun m => by
    rw [lookM_snoc]
    cases hq : lookM q m with
    | some x => rfl
    | none =>
      by_cases em : y.1 = m
      · exact absurd (em ▸ hq) hl
      · simp [em]
  exact ⟨ks, h1.congr fun k _ => by unfold needV; rw [e], fun m => by rw [h2, e]⟩
theorem NM.put {w : World} {b : Nat} {q : List Md} {y : Md} {ks : List Nm} (h2 : ∀ m, m ∈ ks ↔ lookM q m ≠ none) (ht : y.1 ∉ names q) (h : IsM w b (if y.1 ∈ ks then ks else ks ++ [y.1]) (updV (needV q) y.1 y.2.2)) : NM w b (q ++ [y]) := by
  have hy : y.1 ∉ ks := fun hm => ht ((told_iff q y.1).2 ((h2 _).1 hm))
  rw [if_neg hy] at h
  refine ⟨ks ++ [y.1], h.congr fun k hk => ?_, fun m => ?_⟩
  · unfold updV needV
    rw [lookM_snoc]
    by_cases e : k = y.1
    · subst e
      rw [if_pos rfl]
      cases hq : lookM q y.1 with
      | some x => exact absurd ((told_iff q y.1).2 (by rw [hq]; exact fun h => by cases h)) ht
      | none => simp
    · rw [if_neg e]
      cases hq : lookM q k with
      | some x => rfl
      | none => rw [if_neg (fun h : y.1 = k => e h.symm)]
  · rw [List.mem_append, h2, List.mem_singleton, lookM_snoc]
    cases hq : lookM q m with
    | some x => simp
    | none =>
      by_cases e : y.1 = m
      · simp [e]
      · have e' : ¬ m = y.1 := fun h => e h.symm
        simp [e, e']
def NeedsR (w : World) (q : List Md) (e : Ending) (w' : World) : Prop := ∃ (b : Nat) (tw : Nm) (is : Bool), e = .returned (.tuple #[.map (some b), .string (S tw), .bool is]) ∧ Below w.heap.size w w' ∧ w.heap.size ≤ b ∧ NM w' b q ∧
  ((is = true ∧ again [] (nl q) = some tw) ∨ (is = false ∧ tw = [] ∧ again [] (nl q) = none))
theorem names_take (q : List Md) (k : Nat) : names (q.take k) = (names q).take k := by simp [names]
set_option maxRecDepth 100000 in
set_option maxHeartbeats 3200000 in
theorem needs_any {w : World} {A : Option Addr} {c : Nat} {q : List Md} (h : Mods w A c q) :
    Calls Try.prog 16 #[.slice A q.length c] w (NeedsR w q) := by
  have hc := h.cap
  have hg := h.big
  have H := Lib.hid h
  have HB0 := Lib.hid ((Below.refl w.heap.size w).alloc (Nat.le_refl _) (.map #[] 0))
  have HM0 := Lib.hid (show NM (w.alloc (.map #[] 0)) w.heap.size (q.take 0) from ⟨[], IsM.made w _, fun m => by simp [lookM]⟩)
  clear h
  have hmm := @run_makeMap Try.prog
  go_enter Try.func16, Try.ntmps16
  go_wp2
  go_loopw [3, 4, 12] (fun tv bv i wr => ∃ (k : Nat) (tw : Nm) (is : Bool), k ≤ q.length ∧ tv = .string (S tw) ∧ bv = .bool is ∧ i = .int .i64 k ∧ Hid (AgR q k tw is) ∧ Hid (NM wr w.heap.size (q.take k)) ∧ Hid (Below w.heap.size w wr)) (fun _ _ i _ => q.length - (intOf i).toNat)
  case atStart => exact ⟨0, [], false, Nat.zero_le _, rfl, rfl, rfl, Lib.hid (AgR.start q), HM0, HB0⟩
  case round =>
    obtain ⟨k, tw, is, hk, rfl, rfl, rfl, hA, hM, hB⟩ := hrel
    by_cases hlt : k < q.length
    · obtain ⟨g, off, rfl, hgl, hcell, hcell2⟩ := (H.out.below hB.out).at_ hlt
      obtain ⟨A', c', e2, hN⟩ := H.out.each q[k] (List.getElem_mem hlt)
      rw [e2] at hcell2
      have hsz := hB.out.size
      have HE := Lib.hid e2
      clear e2 hN
      have HB1 := Lib.hid (hB.out.alloc hsz (.cells #[.string (S q[k].1), .slice A' q[k].2.1.length c'] 30))
      have HM1 := Lib.hid (hM.out.kept (heap_alloc_old wr (.cells #[.string (S q[k].1), .slice A' q[k].2.1.length c'] 30) hM.out.lt))
      have HT := Lib.hid (take_snoc' q k hlt)
      by_cases ht : q[k].1 ∈ names (q.take k)
      · have hl : (Instr.lookup 40 (.map (some w.heap.size)) (.string (S q[k].1)) true).run Try.prog (wr.alloc (.cells #[.string (S q[k].1), .slice A' q[k].2.1.length c'] 30)) = .ok (.tuple #[needV (q.take k) q[k].1, .bool true]) (wr.alloc (.cells #[.string (S q[k].1), .slice A' q[k].2.1.length c'] 30)) := by
          obtain ⟨ks, h1, h2⟩ := HM1.out.is
          exact h1.look_in Try.underlying40 Try.underlying9 ((h2 _).2 ((told_iff _ _).1 ht)) true
        have HM2 := Lib.hid (HM1.out.same ht)
        rw [← HT.out] at HM2
        cases is with
        | true =>
          have HA := Lib.hid (hA.out.over (k + 1))
          clear ht hA hM hB
          go_wp2
          go_roundw
          case rel => exact ⟨k + 1, tw, true, by omega, rfl, rfl, by go_num, HA, HM2, HB1⟩
          case measure => simp [intOf]; omega
        | false =>
          have HA := Lib.hid (hA.out.told hlt ht)
          clear ht hA hM hB
          go_wp2
          go_roundw
          case rel => exact ⟨k + 1, q[k].1, true, by omega, rfl, rfl, by go_num, HA, HM2, HB1⟩
          case measure => simp [intOf]; omega
      · have hl : (Instr.lookup 40 (.map (some w.heap.size)) (.string (S q[k].1)) true).run Try.prog (wr.alloc (.cells #[.string (S q[k].1), .slice A' q[k].2.1.length c'] 30)) = .ok (.tuple #[.slice none 0 0, .bool false]) (wr.alloc (.cells #[.string (S q[k].1), .slice A' q[k].2.1.length c'] 30)) := by
          obtain ⟨ks, h1, h2⟩ := HM1.out.is
          exact h1.look_out Try.underlying40 Try.underlying9 (fun h => ht ((told_iff _ _).2 ((h2 _).1 h))) (by kernel_rfl) true
        have HA := Lib.hid (hA.out.new hlt ht)
        have HN := Lib.hid ht
        obtain ⟨ks, h1, h2⟩ := HM1.out.is
        have H1 := Lib.hid h1
        have H2 := Lib.hid h2
        clear ht hA hM hB h1 h2
        go_wp2_with (first | (at_mapUpdate; refine wpList_put _ rfl _ _ _ _ rfl _ _ Try.underlying40 Try.underlying9 w.heap.size ks (needV (q.take k)) rfl H1.out q[k].1 _ rfl rfl ?_; intro w2 hp hg2) | go_in)
        have HP := Lib.hid (show NM w2 w.heap.size (q.take (k + 1)) from by
          rw [HT.out]
          refine NM.put H2.out HN.out ?_
          rw [HE.out]
          exact hp)
        have HB2 := Lib.hid (HB1.out.grown hg2 (by simp; omega) (fun k hk => by injection hk with hk; omega))
        clear hp hg2
        go_wp2
        go_roundw
        case rel => exact ⟨k + 1, tw, is, by omega, rfl, rfl, by go_num, HA, HP, HB2⟩
        case measure => simp [intOf]; omega
    · have hA' := hA.out
      have hM' := hM.out
      rw [show k = q.length by omega] at hA' hM'
      rw [List.take_length] at hM'
      have HA := Lib.hid hA'.done
      have HM := Lib.hid hM'
      clear hA' hM' hA hM
      go_wp2
      refine bodyPost_ret (v := .tuple #[.map (some w.heap.size), .string (S tw), .bool is]) (by simp [results, Try.results16, go_sem]) rfl ?_
      exact ⟨w.heap.size, tw, is, rfl, hB.out, Nat.le_refl _, HM.out, HA.out⟩
end Go.Proofs.Ythonoobbpfgjhaa.Od
