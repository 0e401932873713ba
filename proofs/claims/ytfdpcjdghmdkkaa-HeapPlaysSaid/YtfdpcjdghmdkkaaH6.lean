/- slices.SortedFunc over the blocks of a map: a row of them, in the order of their addresses. -/
import Derived.Test.YtfdpcjdghmdkkaaH5
import Derived.Test.YtfdpcjdghmdkkaaShelf
import Derived.Shelf.SlSortCmp.NoneTotal
set_option linter.unusedSimpArgs false
set_option linter.unusedVariables false
namespace Go.Proofs.Ytfdpcjdghmdkkaa.Hp
open Go.RowKit Go.Sort
/-- A block whose address is a small number. -/
def Bk := Fin 131072 × Nat
instance : Inhabited Bk := ⟨(0, 0)⟩
def Bk.out (x : Bk) : Nat × Nat := (x.1.val, x.2)
def encB (x : Bk) : List Value := blkC x.out
def cfB (x y : Bk) : Int := (x.1.val : Int) - (y.1.val : Int)
theorem ltB (x y : Bk) : ltOf cfB x y = decide (x.1.val < y.1.val) := by
  unfold ltOf cfB
  congr 1
  rw [eq_iff_iff]
  omega
theorem swoB : SWO (ltOf cfB) where
  irrefl x := by rw [ltB]; simp
  trans x y z h1 h2 := by rw [ltB] at *; simp at *; omega
  ntrans x y z h1 h2 := by rw [ltB] at *; simp at *; omega
set_option maxHeartbeats 1000000 in
theorem place1_any (x y : Bk) (W : World) : Calls Try.prog 32 #[.agg (encB x).toArray, .agg (encB y).toArray] W fun e w' => e = .returned (.int .i64 (cfB x y)) ∧ ∃ q os', w' = grow (W.drewN q) os' := by
  have hx := x.1.isLt
  have hy := y.1.isLt
  unfold encB blkC Bk.out cfB
  obtain ⟨⟨a, ha⟩, n⟩ := x
  obtain ⟨⟨b, hb⟩, m⟩ := y
  dsimp only at *
  have hw : IntKind.i64.wrap ((a : Int) - (b : Int)) = (a : Int) - b := by rw [IntKind.wrap_i64]; omega
  go_enter Try.func32, Try.ntmps32
  go_wp2
  go_ret
  exact ⟨rfl, 0, _, by rw [alloc_eq_grow, alloc_eq_grow, grow_grow]; rfl⟩
theorem enters_place1 : ∀ args w, (callFunc 32 args).run Try.prog w = .ok (.enter 32 args) w := enters_of Try.func32 (by kernel_rfl) rfl
/-- The cells of a row of blocks, one by one. -/
theorem flat_get : ∀ (l : List Bk) (t : Nat), t < l.length * 2 → (l.flatMap encB)[t]? = some ((encB (l[t / 2]!))[t % 2]!)
  | [], t, h => by simp at h
  | a :: l, 0, _ => by simp [encB, blkC]
  | a :: l, 1, _ => by simp [encB, blkC]
  | a :: l, t + 2, h => by
    have ih := flat_get l t (by simp only [List.length_cons] at h; omega)
    rw [List.flatMap_cons]
    have e : (encB a ++ l.flatMap encB)[t + 2]? = (l.flatMap encB)[t]? := by
      rw [List.getElem?_append_right (by simp [encB, blkC])]
      simp [encB, blkC]
    rw [e, ih]
    have h1 : (t + 2) / 2 = t / 2 + 1 := by omega
    have h2 : (t + 2) % 2 = t % 2 := by omega
    rw [h1, h2]
    rfl
theorem flat_len (l : List Bk) : (l.flatMap encB).length = l.length * 2 := by
  induction l with
  | nil => rfl
  | cons a l ih => rw [List.flatMap_cons, List.length_append, ih]; simp [encB, blkC]; omega
theorem flatK_eq (l : List Bk) : (flatK encB 2 l.toArray).toList = l.flatMap encB := by
  apply List.ext_getElem?
  intro t
  by_cases h : t < l.length * 2
  · rw [flat_get l t h]
    have h' : t < (flatK encB 2 l.toArray).size := by simpa using h
    have := get_flatK encB 2 l.toArray t (by simpa using h)
    rw [getElem!_pos _ t h'] at this
    rw [Array.getElem?_toList, Array.getElem?_eq_getElem h', this]
    simp
  · rw [List.getElem?_eq_none (by simp; omega), List.getElem?_eq_none (by rw [flat_len]; omega)]
section
variable {w : World} {base : Nat}
theorem holds_row {g n c : Nat} {l : List Bk} (h : w.ownsRow base 61 2 (.slice (some ⟨g, 0, none⟩) n c) n (l.flatMap encB)) : HoldsK encB 2 w g 0 l.toArray := by
  intro j hj
  have hj' : j < l.length * 2 := by simpa using hj
  have hn : n = l.length := by have := h.1; rw [flat_len] at this; omega
  refine ⟨?_, by rw [Nat.zero_add]; exact World.ownsRow.frozenAt h j⟩
  rw [Nat.zero_add, World.ownsRow.cellAt h j (by omega), ← flatK_eq]
  have h' : j < (flatK encB 2 l.toArray).size := by simpa using hj'
  rw [Array.getElem?_toList, Array.getElem?_eq_getElem h', getElem!_pos _ j h']
  rfl
/-- The row behind the sort. -/
theorem row_sorted {g n c : Nat} {l l' : List Bk} (h : w.ownsRow base 61 2 (.slice (some ⟨g, 0, none⟩) n c) n (l.flatMap encB)) (hl : l'.length = l.length) (m : Nat) (os : Array Obj) :
    (sortWorldK encB 2 w g 0 m l'.toArray os).ownsRow base 61 2 (.slice (some ⟨g, 0, none⟩) n c) n (l'.flatMap encB) := by
  have hn : n = l.length := by have := h.1; rw [flat_len] at this; omega
  have hlt : g < w.heap.size := (World.ownsRow.lt h g rfl).2
  refine ⟨by rw [flat_len]; omega, ?_⟩
  rcases h.2 with ⟨h0, _⟩ | ⟨g', cap, cur, h1, h2, h3, h4, h5, h6, h7⟩
  · cases h0
  · injection h1 with e1 e2 e3
    injection e1 with e1
    injection e1 with e1
    subst e1 e3
    refine .inr ⟨g, c, putCells id 0 (flatK encB 2 l'.toArray) cur, rfl, h2, ?_, h4, h5, by simp [putCells, h6], ?_⟩
    · unfold sortWorldK putRowK putRow
      rw [heap_grow_old _ _ (by simpa [mapBlock] using hlt)]
      simp only [mapBlock, Array.getElem?_modify, if_true]
      show Option.map _ w.heap[g]? = _
      rw [h3]
      rfl
    · rw [← flatK_eq]
      have hsz : (flatK encB 2 l'.toArray).size = n * 2 := by simp; omega
      apply List.ext_getElem?
      intro j
      rw [List.getElem?_take]
      by_cases hj : j < n * 2
      · have hjc : j < cur.size := by rw [h6]; omega
        rw [if_pos hj]
        simp only [putCells, Array.getElem?_toList, Array.getElem?_mapIdx, Array.getElem?_eq_getElem hjc, Option.map_some]
        rw [if_pos ⟨Nat.zero_le _, by omega⟩, Array.getElem?_eq_getElem (by omega), Nat.sub_zero, getElem!_pos _ j (by omega)]
        rfl
      · rw [if_neg hj, List.getElem?_eq_none (by simp; omega)]
theorem below_sorted {g : Nat} {B m : Nat} {d : Array Bk} {os : Array Obj} (hB : B ≤ w.heap.size) (hg : B ≤ g) : Below B w (sortWorldK encB 2 w g 0 m d os) := by
  refine ⟨rfl, rfl, rfl, by simp [sortWorldK, putRowK], fun k hk => ?_⟩
  have hkl : k < w.heap.size := by omega
  unfold sortWorldK putRowK putRow
  rw [heap_grow_old _ _ (by simpa [mapBlock] using hkl)]
  simp only [mapBlock, Array.getElem?_modify]
  rw [if_neg (by omega)]
  rfl
end
/-- slices.SortFunc of a row of one's own. -/
theorem sortFunc_any {base : Nat} {w : World} {v : Value} {n : Nat} {l : List Bk} (h : w.ownsRow base 61 2 v n (l.flatMap encB)) (hl : n ≤ 100000) (hb : base ≤ w.heap.size) :
    Calls Try.prog 37 #[v, .func (.func 32) #[] #[]] w fun e w' =>
      e = .returned (.tuple #[]) ∧ ∃ l' : List Bk, l'.Perm l ∧ (l'.Pairwise fun x y => x.1.val ≤ y.1.val) ∧ w'.ownsRow base 61 2 v n (l'.flatMap encB) ∧ Below base w w' := by
  have hn : n = l.length := by have := h.1; rw [flat_len] at this; omega
  rcases h.2 with ⟨rfl, h0⟩ | ⟨g, cap, cur, rfl, h2, _⟩
  · subst h0
    have : l = [] := List.eq_nil_of_length_eq_zero hn.symm
    subst this
    refine (AnyF.slices_SortFunc_none Try.sortBlk none 0 (.func (.func 32) #[] #[]) w).mono fun e w' ⟨he, hw⟩ => ?_
    subst hw
    exact ⟨he, [], .refl _, .nil, h, .refl _ _⟩
  · have hlt : g < w.heap.size := (World.ownsRow.lt h g rfl).2
    have hc := AnyQ.slices_SortFunc Try.sortBlk 2 Try.isAgg61 Try.sizeOf61 encB (fun _ => rfl) (fun x v hv => by simp [encB, blkC] at hv; rcases hv with rfl | rfl <;> rfl) cfB swoB 32 #[] g 0 cap l.toArray w enters_place1 (fun _ _ _ _ x y => place1_any x y _) (holds_row h) hlt (by simp; omega)
    have e : (l.toArray.size : Nat) = n := by simp [hn]
    rw [e] at hc
    refine hc.mono fun e w' ⟨he, d', m, os, hp, hs, hw⟩ => ⟨he, d'.toList, ?_, ?_, ?_, ?_⟩
    · have := hp.2.2
      have e1 : (d'.extract 0 n).toList = d'.toList := by rw [Array.toList_extract]; simp; have := hp.1; simp at this; exact List.take_of_length_le (by simp; omega)
      have e2 : (l.toArray.extract 0 n).toList = l := by rw [Array.toList_extract]; simp [hn]
      rwa [e1, e2] at this
    · rw [List.pairwise_iff_getElem]
      intro i j hi hj hij
      have hd : d'.size = n := by have := hp.1; simpa [hn] using this
      have := hs i j (Nat.zero_le _) hij (by simp at hj; omega)
      rw [getElem!_pos _ j (by simpa using hj), getElem!_pos _ i (by simpa using hi), ltB] at this
      simp only [Array.getElem_toList]
      have := of_decide_eq_false this
      omega
    · rw [hw]
      have hd : d'.toList.length = l.length := by have := hp.1; simpa using this
      have := row_sorted h hd m os
      simpa using this
    · rw [hw]; exact below_sorted hb h2
end Go.Proofs.Ytfdpcjdghmdkkaa.Hp
