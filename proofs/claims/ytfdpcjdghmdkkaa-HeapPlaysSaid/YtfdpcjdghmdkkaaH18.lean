/- HeapApart: the words that are taken; what stands in memory. -/
import Derived.Test.YtfdpcjdghmdkkaaH17
import Derived.Deep.LoopGhost
set_option linter.unusedSimpArgs false
set_option linter.unusedVariables false
namespace Go.Proofs.Ytfdpcjdghmdkkaa.Hp
open Go.RowKit Go.Sort
theorem infoBool : (Try.prog.info? 4).map (fun i => (i.zero, i.size, i.bytes)) = some (some (.bool false), 1, 1) := by kernel_rfl
def tkRow (n : Nat) (tk : Nat → Bool) : List Value := (List.range n).map fun x => .bool (tk x)
theorem tkRow_len (n : Nat) (tk : Nat → Bool) : (tkRow n tk).length = n := by simp [tkRow]
theorem tkRow_at {n x : Nat} (tk : Nat → Bool) (h : x < n) : (tkRow n tk)[x]? = some (.bool (tk x)) := by simp [tkRow, h]
def updT (tk : Nat → Bool) (x : Nat) : Nat → Bool := fun y => tk y || decide (y = x)
theorem tkRow_set {n x : Nat} (tk : Nat → Bool) (h : x < n) : (tkRow n tk).set x (.bool true) = tkRow n (updT tk x) := by
  apply List.ext_getElem?
  intro i
  rw [List.getElem?_set]
  by_cases hi : i < n
  · rw [tkRow_at _ hi, tkRow_at _ hi, tkRow_len]
    by_cases e : x = i
    · subst e; simp [updT, h]
    · have e2 : ¬ i = x := fun q => e q.symm
      simp [e, e2, updT]
  · rw [List.getElem?_eq_none (by rw [tkRow_len]; omega), List.getElem?_eq_none (by rw [tkRow_len]; omega), tkRow_len]
    by_cases e : x = i
    · omega
    · simp [e]
theorem madeB_zero (n : Nat) : (madeCells (Value.bool false).cells (n * 1)).toList = tkRow n (fun _ => false) := by
  apply List.ext_getElem?
  intro i
  rw [Nat.mul_one]
  by_cases h : i < n
  · rw [tkRow_at _ h]
    simp [madeCells, h, Value.cells, Nat.mod_one]
  · rw [List.getElem?_eq_none (by simp [madeCells]; omega), List.getElem?_eq_none (by rw [tkRow_len]; omega)]
set_option maxRecDepth 100000 in
theorem made_taken (w : World) (n : Nat) (hn : n ≤ 1000) : ∃ w', (Instr.makeSlice 49 (.int .i64 (n : Nat)) (.int .i64 (n : Nat))).run Try.prog w = .ok (.slice (some ⟨w.heap.size, 0, none⟩) n n) w' ∧
    w'.ownsRow w.heap.size 4 1 (.slice (some ⟨w.heap.size, 0, none⟩) n n) n (tkRow n (fun _ => false)) ∧ w.grownBy w' none ∧ w'.heap.size = w.heap.size + 1 := by
  obtain ⟨i0, hi0, hz0, hz1, hz2⟩ := info_parts infoBool
  have hr := run_make (P := Try.prog) w 49 4 i0 _ Try.underlying49 hi0 hz0 .i64 .i64 n n (by omega) (Int.le_refl _) (by rw [hz2]; omega) (by omega)
  simp only [Int.toNat_natCast, hz1] at hr
  refine ⟨_, hr, ?_, World.grownBy_alloc w _ none, by simp⟩
  have := World.ownsRow_lit (base := w.heap.size) (e := 4) (size := 1) w (madeCells (Value.bool false).cells (n * 1)) n (Nat.le_refl _) (by unfold maxLen; omega) (size_madeCells _ _)
  rw [madeB_zero] at this
  exact this
theorem grownB {a b : World} (h : Below a.heap.size a b) (r : Option Nat) : a.grownBy b r := ⟨h.os, h.tape, h.output, h.size, fun k hk _ => h.block k hk⟩
theorem rowK {w w' : World} {base e size n : Nat} {v : Value} {xs : List Value} {row : Option Nat} (h : w.ownsRow base e size v n xs) (hg : w.grownBy w' row) (hne : ∀ k, v.ownBlock = some k → row ≠ some k) : w'.ownsRow base e size v n xs := by
  refine World.ownsRow.kept h hg ?_
  cases e : v.ownBlock with
  | none => exact .inl rfl
  | some k => exact .inr (fun h => hne k e h.symm)
/-- A heap, the words taken, the row of the living. -/
structure Ap (w0 w : World) (h b fr n last : Nat) (ks : List Nat) (g : Nat → Bk) (gt : Nat) (tk : Nat → Bool) (lv : Value) (L : List Nat) : Prop where
  st : StB w0 w h b fr n last ks g
  tr : w.ownsRow w0.heap.size 4 1 (.slice (some ⟨gt, 0, none⟩) n n) n (tkRow n tk)
  lr : w.ownsRow w0.heap.size 23 1 lv L.length (L.map keyV)
  ne : lv.ownBlock ≠ some gt
  n1 : gt ≠ h
  n2 : gt ≠ b
section
variable {w0 w w' : World} {h b fr n last : Nat} {ks : List Nat} {g : Nat → Bk} {gt : Nat} {tk : Nat → Bool} {lv : Value} {L : List Nat}
theorem Ap.below (S : Ap w0 w h b fr n last ks g gt tk lv L) (hb : Below w.heap.size w w') : Ap w0 w' h b fr n last ks g gt tk lv L :=
  ⟨S.st.held hb, rowK S.tr (grownB hb none) (fun k _ e => by cases e), rowK S.lr (grownB hb none) (fun k _ e => by cases e), S.ne, S.n1, S.n2⟩
theorem Ap.dn (S : Ap w0 w h b fr n last ks g gt tk lv L) (k : Nat) : Ap w0 (w.drewN k) h b fr n last ks g gt tk lv L := S.below (below_drewN (Below.refl _ _) k)
theorem Ap.gt_lo (S : Ap w0 w h b fr n last ks g gt tk lv L) : w0.heap.size ≤ gt ∧ gt < w.heap.size := World.ownsRow.lt S.tr gt rfl
theorem Ap.set (S : Ap w0 w h b fr n last ks g gt tk lv L) {x : Nat} (hx : x < n) : Ap w0 (w.setCell ⟨gt, x, none⟩ (.bool true)) h b fr n last ks g gt (updT tk x) lv L := by
  obtain ⟨r1, r2⟩ := World.ownsRow.stored S.tr x (.bool true)
  rw [tkRow_set _ hx] at r1
  refine ⟨⟨⟨S.st.1.at_.kept (r2.block h S.st.1.at_.lt (fun e => S.n1 (by injection e with e; first | exact e | exact e.symm))) (r2.block b S.st.1.at_.map.lt (fun e => S.n2 (by injection e with e; first | exact e | exact e.symm))), S.st.1.ok⟩, ?_⟩, r1, rowK S.lr r2 (fun k hk e => ?_), S.ne, S.n1, S.n2⟩
  · exact S.st.2.grown r2 S.st.2.size (fun k hk => by injection hk with hk; exact hk ▸ S.gt_lo.1)
  · injection e with e; exact S.ne (e ▸ hk)
theorem Ap.cellT (S : Ap w0 w h b fr n last ks g gt tk lv L) {x : Nat} (hx : x < n) : w.cell? ⟨gt, x, none⟩ = some (.bool (tk x)) ∧ w.frozen? ⟨gt, x, none⟩ = false := by
  refine ⟨?_, World.ownsRow.frozenAt S.tr x⟩
  rw [World.ownsRow.cellAt S.tr x (by omega), tkRow_at _ hx]
theorem Ap.live (S : Ap w0 w h b fr n last ks g gt tk lv L) : ∃ A c, lv = .slice A L.length c ∧ Reads w w.heap.size 1 A L.length (L.map keyV) := own_form S.lr
theorem Ap.row {A : Option Addr} {c : Nat} (S : Ap w0 w h b fr n last ks g gt tk (.slice A L.length c) L) : Reads w w.heap.size 1 A L.length (L.map keyV) := by
  obtain ⟨A1, c1, e, hr⟩ := S.live
  injection e with e1 e2 e3
  subst e1
  exact hr
end
/-- Word x lies within one of the blocks. -/
def cov (g : Nat → Bk) (fr : Nat) (L : List Nat) (x : Nat) : Bool := L.any fun k => decide ((g k).1.val ≤ fr + x ∧ fr + x < (g k).1.val + (g k).2)
theorem cov_snoc (g : Nat → Bk) (fr : Nat) (L : List Nat) (k x : Nat) : cov g fr (L ++ [k]) x = (cov g fr L x || decide ((g k).1.val ≤ fr + x ∧ fr + x < (g k).1.val + (g k).2)) := by
  unfold cov
  rw [List.any_append, List.any_cons, List.any_nil, Bool.or_false]
end Go.Proofs.Ytfdpcjdghmdkkaa.Hp
