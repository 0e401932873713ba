/- The closure that goes through all that are reached. -/
import Derived.Test.YthonoobbpfgjhaaM5
set_option linter.unusedSimpArgs false
set_option linter.unusedVariables false
namespace Go.Proofs.Ythonoobbpfgjhaa.Od
open Go.RowKit
def seenV (s : List Nm) (n : Nm) : Value := if n ∈ s then .int .i64 1 else .int .i64 0
theorem seenV_in {s : List Nm} {n : Nm} (h : n ∈ s) : seenV s n = .int .i64 1 := if_pos h
theorem seenV_out {s : List Nm} {n : Nm} (h : n ∉ s) : seenV s n = .int .i64 0 := if_neg h
/-- The map of those that are seen. -/
def SM (w : World) (b : Nat) (s : List Nm) : Prop := IsM w b s (seenV s)
theorem SM.look {w : World} {b : Nat} {s : List Nm} (h : SM w b s) (n : Nm) : (Instr.lookup 39 (.map (some b)) (.string (S n)) false).run Try.prog w = .ok (seenV s n) w :=
  IsM.look Try.underlying39 Try.underlying9 h n (z := .int .i64 0) (by kernel_rfl) (fun hm => seenV_out hm)
theorem SM.put {w : World} {b : Nat} {s : List Nm} {n : Nm} (hn : n ∉ s) (h : IsM w b (if n ∈ s then s else s ++ [n]) (updV (seenV s) n (.int .i64 1))) : SM w b (s ++ [n]) := by
  rw [if_neg hn] at h
  refine h.congr fun k hk => ?_
  unfold updV
  by_cases e : k = n
  · subst e
    rw [if_pos rfl, seenV_in hk]
  · rw [if_neg e]
    rcases List.mem_append.1 hk with hk | hk
    · rw [seenV_in hk, seenV_in (List.mem_append_left _ hk)]
    · exact absurd (List.mem_singleton.1 hk) e
/-- What stands in memory while they are gone through. -/
structure RE (W0 w : World) (bA ba bS bs bF : Nat) (q : List Md) (s : List Nm) : Prop where
  base : Below W0.heap.size W0 w
  cA : w.cell? ⟨bA, 0, none⟩ = some (.map (some ba))
  cS : w.cell? ⟨bS, 0, none⟩ = some (.map (some bs))
  cF : w.cell? ⟨bF, 0, none⟩ = some (.func (.func 25) #[] #[.pointer (some ⟨bA, 0, none⟩), .pointer (some ⟨bS, 0, none⟩), .pointer (some ⟨bF, 0, none⟩)])
  nm : NM w ba q
  sm : SM w bs s
  ne : bA ≠ bs ∧ bS ≠ bs ∧ bF ≠ bs ∧ ba ≠ bs ∧ W0.heap.size ≤ bs
theorem RE.put {W0 w w' : World} {bA ba bS bs bF : Nat} {q : List Md} {s s' : List Nm} (h : RE W0 w bA ba bS bs bF q s) (hg : w.grownBy w' (some bs)) (hs : SM w' bs s') : RE W0 w' bA ba bS bs bF q s' := by
  obtain ⟨n1, n2, n3, n4, n5⟩ := h.ne
  have hk : ∀ b, b ≠ bs → some b ≠ some bs := fun b hb e => hb (by injection e)
  exact ⟨h.base.grown hg h.base.size (fun k hk => by injection hk with hk; omega), hg.cell h.cA (hk _ n1), hg.cell h.cS (hk _ n2), hg.cell h.cF (hk _ n3), h.nm.kept (hg.block _ h.nm.lt (hk _ n4)), hs, h.ne⟩
theorem needV_form {W0 : World} {q : List Md} (h : ∀ x ∈ q, Needs W0 x) (m : Nm) : ∃ A c, needV q m = .slice A (needsOf (nl q) m).length c ∧ NR W0 A c (needsOf (nl q) m) := by
  unfold needV needsOf
  rw [look_nl]
  cases e : lookM q m with
  | none => exact ⟨none, 0, rfl, NR.nil W0⟩
  | some x => exact h x (lookM_mem e).1
theorem NM.look {w : World} {b : Nat} {q : List Md} (h : NM w b q) (m : Nm) : (Instr.lookup 40 (.map (some b)) (.string (S m)) false).run Try.prog w = .ok (needV q m) w := by
  obtain ⟨ks, h1, h2⟩ := h.is
  refine IsM.look Try.underlying40 Try.underlying9 h1 m (z := .slice none 0 0) (by kernel_rfl) (fun hm => ?_)
  have : lookM q m = none := Decidable.byContradiction fun e => hm ((h2 m).2 e)
  unfold needV
  rw [this]
theorem reachL_skip {g : Nm → List Nm → List Nm} {ns s : List Nm} {k : Nat} (h : k < ns.length) (hin : ns[k] ∈ s) : reachL g (ns.drop k) s = reachL g (ns.drop (k + 1)) s := by
  rw [List.drop_eq_getElem_cons h]
  show (if _ then _ else _) = _
  rw [if_pos hin]
theorem reachL_go {g : Nm → List Nm → List Nm} {ns s : List Nm} {k : Nat} (h : k < ns.length) (hin : ns[k] ∉ s) : reachL g (ns.drop k) s = reachL g (ns.drop (k + 1)) (g ns[k] (s ++ [ns[k]])) := by
  rw [List.drop_eq_getElem_cons h]
  show (if _ then _ else _) = _
  rw [if_neg hin]
set_option maxRecDepth 100000 in
set_option maxHeartbeats 3200000 in
theorem from_any {W0 : World} {bA ba bS bs bF : Nat} {q : List Md} (hq : ∀ x ∈ q, Needs W0 x) : ∀ (f : Nat) (m : Nm) (s : List Nm) (w : World), RE W0 w bA ba bS bs bF q s → left (nl q) s < f →
    Calls Try.prog 25 #[.string (S m), .pointer (some ⟨bA, 0, none⟩), .pointer (some ⟨bS, 0, none⟩), .pointer (some ⟨bF, 0, none⟩)] w fun e w' => e = .returned (.tuple #[]) ∧ RE W0 w' bA ba bS bs bF q (fromP (nl q) f m s) := by
  intro f
  induction f with
  | zero => intro m s w _ hf; omega
  | succ f ih =>
    intro m s w h hf
    obtain ⟨A, c, hv, hN⟩ := needV_form hq m
    have hc := hN.cap
    have hg := hN.big
    have hl := h.nm.look m
    rw [hv] at hl
    have hcA := h.cA
    have HN := Lib.hid hN
    have H := Lib.hid h
    have HIH := Lib.hid ih
    have hsub : ∀ n ∈ needsOf (nl q) m, n ∈ allN (nl q) := fun n hn => needs_all hn
    have HS := Lib.hid hsub
    have HR := Lib.hid (show fromP (nl q) (f + 1) m s = reachL (fromP (nl q) f) (needsOf (nl q) m) s from rfl)
    have HF := Lib.hid (show left (nl q) s ≤ f by omega)
    generalize fromP (nl q) (f + 1) m s = res at *
    generalize needsOf (nl q) m = ns at *
    clear h ih hsub hq hN hf hv
    go_enter Try.func25, Try.ntmps25
    go_wp2
    clear hcA hl
    go_loopw [11] (fun i wr => ∃ (k : Nat) (s' : List Nm), k ≤ ns.length ∧ i = .int .i64 k ∧ Hid (RE W0 wr bA ba bS bs bF q s') ∧ Hid (left (nl q) s' ≤ f) ∧ Hid (res = reachL (fromP (nl q) f) (ns.drop k) s')) (fun i _ => ns.length - (intOf i).toNat)
    case atStart => exact ⟨0, s, Nat.zero_le _, rfl, H, HF, HR⟩
    case round =>
      obtain ⟨k, s', hk, rfl, hE, hL, hR⟩ := hrel
      by_cases hlt : k < ns.length
      · obtain ⟨g, off, rfl, hgl, hcell⟩ := (HN.out.below hE.out.base).at_ hlt
        have hcS := hE.out.cS
        have hlk := hE.out.sm.look ns[k]
        by_cases hin : ns[k] ∈ s'
        · rw [seenV_in hin] at hlk
          have HR' := Lib.hid (hR.out.trans (reachL_skip hlt hin))
          clear hin hR
          go_wp2
          go_roundw
          case rel => exact ⟨k + 1, s', by omega, by go_num, hE, hL, HR'⟩
          case measure => simp [intOf]; omega
        · rw [seenV_out hin] at hlk
          have HR' := Lib.hid (hR.out.trans (reachL_go hlt hin))
          have HI := Lib.hid hin
          have hn := HS.out ns[k] (List.getElem_mem hlt)
          have hsb : ∀ x ∈ s', x ∈ s' ++ [ns[k]] := fun x h => List.mem_append_left _ h
          have HL := Lib.hid (Nat.lt_of_lt_of_le (left_lt (L := nl q) hsb hn hin (by simp)) hL.out)
          clear hin hR hn hsb
          have hcF := hE.out.cF
          go_wp2_with (first
            | (at_mapUpdate; refine wpList_put _ rfl _ _ _ _ rfl _ _ Try.underlying39 Try.underlying9 bs s' (seenV s') rfl hE.out.sm ns[k] (.int .i64 1) rfl rfl ?_; intro w2 hp hg2; have HE2 := Lib.hid (hE.out.put hg2 (SM.put HI.out hp)); have hcF := HE2.out.cF; clear hp hg2)
            | (go_at_call 25; refine (HIH.out ns[k] (s' ++ [ns[k]]) _ HE2.out HL.out).mono ?_; rintro e w3 ⟨rfl, h3⟩; have HE3 := Lib.hid h3; clear h3))
          have HL3 := Lib.hid (Nat.le_trans (left_le (L := nl q) (from_goes (nl q) f ns[k] (s' ++ [ns[k]]) HL.out).sub) (Nat.le_of_lt HL.out))
          go_roundw
          case rel => exact ⟨k + 1, _, by omega, by go_num, HE3, HL3, HR'⟩
          case measure => simp [intOf]; omega
      · have HR' := hR.out
        rw [List.drop_eq_nil_of_le (by omega)] at HR'
        have hE' := hE.out
        rw [show s' = res from HR'.symm] at hE'
        have HE' := Lib.hid hE'
        clear HR' hE' hR
        go_wp2
        go_end0
        exact ⟨rfl, HE'.out⟩
end Go.Proofs.Ythonoobbpfgjhaa.Od
