/- HeapPlays: the reference's Live. -/
import Derived.Test.YtfdpcjdghmdkkaaP5
set_option linter.unusedSimpArgs false
set_option linter.unusedVariables false
namespace Go.Proofs.Ytfdpcjdghmdkkaa.Hp
open Go.RowKit Go.Sort
set_option maxRecDepth 100000 in
theorem made_flags (w : World) (n : Nat) (hn : n ≤ 70000) : ∃ w', (Instr.makeSlice 49 (.int .i64 (n : Nat)) (.int .i64 (n : Nat))).run Try.prog w = .ok (.slice (some ⟨w.heap.size, 0, none⟩) n n) w' ∧
    w'.ownsRow w.heap.size 4 1 (.slice (some ⟨w.heap.size, 0, none⟩) n n) n (tkRow n (fun _ => false)) ∧ w.grownBy w' none ∧ w'.heap.size = w.heap.size + 1 := by
  obtain ⟨i0, hi0, hz0, hz1, hz2⟩ := info_parts infoBool
  have hr := run_make (P := Try.prog) w 49 4 i0 _ Try.underlying49 hi0 hz0 .i64 .i64 n n (by omega) (Int.le_refl _) (by rw [hz2]; omega) (by omega)
  simp only [Int.toNat_natCast, hz1] at hr
  refine ⟨_, hr, ?_, World.grownBy_alloc w _ none, by simp⟩
  have := World.ownsRow_lit (base := w.heap.size) (e := 4) (size := 1) w (madeCells (Value.bool false).cells (n * 1)) n (Nat.le_refl _) (by unfold maxLen; omega) (size_madeCells _ _)
  rw [madeB_zero] at this
  exact this
def isT (f : Nat → Nat) (i : Nat) : Nat → Bool := fun k => (List.range i).any fun x => decide (k = f x)
theorem isT_zero (f : Nat → Nat) : isT f 0 = fun _ => false := by funext k; rfl
theorem isT_step (f : Nat → Nat) (i : Nat) : updT (isT f i) (f i) = isT f (i + 1) := by
  funext k
  unfold updT isT
  rw [List.range_succ, List.any_append, List.any_cons, List.any_nil, Bool.or_false]
/-- Numbers 1 .. m that are marked. -/
def liveT (t : Nat → Bool) (m : Nat) : List Nat := ((List.range m).map (· + 1)).filter t
theorem liveT_zero (t : Nat → Bool) : liveT t 0 = [] := rfl
theorem liveT_yes {t : Nat → Bool} {m : Nat} (h : t (m + 1) = true) : liveT t (m + 1) = liveT t m ++ [m + 1] := by
  unfold liveT
  rw [List.range_succ, List.map_append, List.filter_append]
  simp [h]
theorem liveT_no {t : Nat → Bool} {m : Nat} (h : t (m + 1) = false) : liveT t (m + 1) = liveT t m := by
  unfold liveT
  rw [List.range_succ, List.map_append, List.filter_append]
  simp [h]
theorem liveT_len (t : Nat → Bool) (m : Nat) : (liveT t m).length ≤ m := by
  unfold liveT
  refine Nat.le_trans (List.length_filter_le _ _) ?_
  simp
theorem mem_liveT {t : Nat → Bool} {m k : Nat} : k ∈ liveT t m ↔ (1 ≤ k ∧ k ≤ m) ∧ t k = true := by
  unfold liveT
  rw [List.mem_filter, List.mem_map]
  constructor
  · rintro ⟨⟨x, hx, rfl⟩, h⟩
    rw [List.mem_range] at hx
    exact ⟨⟨by omega, by omega⟩, h⟩
  · rintro ⟨⟨h1, h2⟩, h3⟩
    exact ⟨⟨k - 1, by rw [List.mem_range]; omega, by omega⟩, h3⟩
theorem liveT_lt (t : Nat → Bool) (m : Nat) : (liveT t m).Pairwise (· < ·) := by
  unfold liveT
  refine List.Pairwise.filter _ ?_
  rw [List.pairwise_map]
  exact List.pairwise_lt_range.imp (fun h => by omega)
/-- The living, in order, are one row. -/
theorem liveT_eq {fr n last : Nat} {ks L : List Nat} {g : Nat → Bk} {f : Nat → Nat} (h : OKSt fr n last ks g) (r : Rl fr n ks g f) (hp : L.Perm ks) (hs : L.Pairwise (· ≤ ·)) : liveT (isT f n) last = L := by
  have hnd : (liveT (isT f n) last).Nodup := (liveT_lt _ _).imp (fun q => by omega)
  have hpm : (liveT (isT f n) last).Perm ks := (List.perm_ext_iff_of_nodup hnd h.nd).2 fun k => by
    rw [mem_liveT]
    constructor
    · rintro ⟨⟨h1, h2⟩, h3⟩
      unfold isT at h3
      rw [List.any_eq_true] at h3
      obtain ⟨x, hx, e⟩ := h3
      have e := of_decide_eq_true e
      rw [List.mem_range] at hx
      have := r.own x hx (by omega)
      rw [← e] at this
      exact this.1
    · intro hk
      have h0 := h.key k hk
      have h1 := h.lo k hk
      have h2 := h.hi k hk
      have h3 := h.pos k hk
      refine ⟨h0, ?_⟩
      unfold isT
      rw [List.any_eq_true]
      exact ⟨(g k).1.val - fr, by rw [List.mem_range]; omega, decide_eq_true (r.cov k hk _ (by omega) (by omega)).symm⟩
  exact List.Perm.eq_of_pairwise (le := fun a b => a ≤ b) (fun a b _ _ h1 h2 => Nat.le_antisymm h1 h2) ((liveT_lt _ _).imp (fun q => by omega)) hs (hpm.trans hp.symm)
end Go.Proofs.Ytfdpcjdghmdkkaa.Hp
