/- The law: what holds from round to round. -/
import Derived.Test.YtibpekgmgidebaaC16
import Derived.ChangeSlices
import Derived.OpenShut
set_option linter.unusedSimpArgs false
set_option linter.unusedVariables false
namespace Go.Proofs.Ytibpekgmgidebaa.Sc
open Go.RowKit Go.ChangeShapes Go.WideShapes
open Od
open Lx (EnvS isName Name_any)
attribute [local go_sem] lvl_field1

/-- A slice of bytes that came in. -/
structure Bs (w : World) (A : Option Addr) (c : Nat) (l : List Nat) : Prop where
  reads : Reads w w.heap.size 1 A l.length (l.map fun x => Value.int .u8 (x : Nat))
  cap : l.length ≤ c
  max : c ≤ 9223372036854775807
  small : ∀ x ∈ l, x < 256
/-- The name that a byte stands for. -/
def nm (x : Nat) : Nm := [110, UInt8.ofNat (97 + x % 12)]
theorem nm_all : ∀ j, j < 12 → isName (nm j) = true ∧ nm j ≠ nA := by decide
theorem nm_mod (x : Nat) : nm (x % 12) = nm x := by unfold nm; rw [Nat.mod_mod]
theorem nm_is (x : Nat) : isName (nm x) = true := by rw [← nm_mod]; exact (nm_all _ (Nat.mod_lt _ (by omega))).1
def names12 : List Nm := (List.range 12).map nm
theorem nm_mem (x : Nat) : nm x ∈ names12 := by
  rw [← nm_mod]
  exact List.mem_map.2 ⟨x % 12, List.mem_range.2 (Nat.mod_lt _ (by omega)), rfl⟩
theorem nm_in {k : Nm} (h : k ∈ names12) : isName k = true := by
  obtain ⟨j, _, rfl⟩ := List.mem_map.1 h
  exact nm_is j
def At (l : Lvl) : Nm → Value := fun k => .int .i64 (l.f k).1.at_
/-- What holds from round to round. -/
structure Inv (w : World) (B vb mb : Nat) (l0 l : Lvl) : Prop where
  env : EnvAt w B vb ([l0] ++ [l])
  at_ : IsM w mb l.ks (At l)
  mlo : B ≤ mb
  sep : ∀ x ∈ [l0] ++ [l], x.b ≠ mb
  ok : ∀ k ∈ l.ks, (l.f k).1.name = k ∧ 1 ≤ (l.f k).1.at_ ∧ (l.f k).1.at_ ≤ 2000 ∧ k ∈ names12
theorem len_sub : ∀ {l m : List Nm}, l.Nodup → (∀ x ∈ l, x ∈ m) → l.length ≤ m.length
  | [], m, _, _ => Nat.zero_le _
  | a :: l, m, h, hs => by
    rw [List.nodup_cons] at h
    have ha := hs a (List.mem_cons_self ..)
    have := len_sub (l := l) (m := m.erase a) h.2 (fun x hx => (List.mem_erase_of_ne (fun (e : x = a) => h.1 (e ▸ hx))).2 (hs x (List.mem_cons_of_mem _ hx)))
    rw [List.length_erase_of_mem ha] at this
    have hp := List.length_pos_of_mem ha
    rw [List.length_cons]
    omega
theorem Inv.few {w : World} {B vb mb : Nat} {l0 l : Lvl} (h : Inv w B vb mb l0 l) : l.ks.length ≤ 12 := by
  have := len_sub h.at_.nodup (fun x hx => (h.ok x hx).2.2.2)
  simpa [names12] using this
theorem ism_cells {w : World} {b : Nat} {ks : List Nm} {f : Nm → Value} (h : IsM w b ks f) : ∀ cs t r, w.heap[b]? ≠ some (.cells cs t r) := by
  obtain ⟨es, clock, h1, _⟩ := h
  intro cs t r e
  rw [h1] at e
  cases e
theorem Inv.mid {w w2 : World} {B vb mb : Nat} {l0 l : Lvl} (h : Inv w B vb mb l0 l) (hg : w.grownBy w2 (some l.b)) : IsM w2 mb l.ks (At l) :=
  h.at_.kept (hg.block _ h.at_.lt (fun e => h.sep l (by simp) (by injection e with e; exact e.symm)))
theorem Inv.grown {w w' : World} {B vb mb : Nat} {l0 l : Lvl} (h : Inv w B vb mb l0 l) (hg : w.grownBy w' none) : Inv w' B vb mb l0 l :=
  ⟨h.env.grown hg, h.at_.grown hg (by simp), h.mlo, h.sep, h.ok⟩
theorem Inv.below {w0 w w' : World} {B vb mb : Nat} {l0 l : Lvl} (h : Inv w B vb mb l0 l) (hb : Below B w0 w) (hB : B ≤ w.heap.size) (hg : w.grownBy w' (some l.b)) : Below B w0 w' := below_lvl h.env hb hB hg
theorem at_upd (l : Lvl) (e : Ent) (x : Value) (n : Nm) (ks : List Nm) : updV (At l) n (.int .i64 e.at_) = At ⟨l.cl, l.b, ks, updI l.f n (e, x)⟩ := by
  funext k
  simp only [updV, At, updI]
  split <;> rfl
/-- A name is written into both. -/
theorem Inv.step {w w2 : World} {B vb mb : Nat} {l0 l : Lvl} (h : Inv w B vb mb l0 l) (hg : w.grownBy w2 (some l.b)) {n : Nm} {e : Ent} {ks : List Nm} (hks : ks = if n ∈ l.ks then l.ks else l.ks ++ [n])
    (he : EnvAt w2 B vb ([l0] ++ [⟨l.cl, l.b, ks, updI l.f n (e, .slice none 0 0)⟩])) (hn : e.name = n) (ha : 1 ≤ e.at_ ∧ e.at_ ≤ 2000) (h12 : n ∈ names12) :
    ∃ w3, (Instr.mapUpdate 27 (.map (some mb)) (.string (S n)) (.int .i64 e.at_)).run Try.prog w2 = .ok () w3 ∧ w2.grownBy w3 (some mb) ∧ Inv w3 B vb mb l0 ⟨l.cl, l.b, ks, updI l.f n (e, .slice none 0 0)⟩ := by
  have hm := h.mid hg
  obtain ⟨w3, hrun, hm3, hg3⟩ := hm.put Try.underlying27 Try.underlying9 n (.int .i64 e.at_)
  rw [← hks, at_upd l e (.slice none 0 0) n ks] at hm3
  refine ⟨w3, hrun, hg3, he.but hg3 (ism_cells hm) ?_, hm3, h.mlo, ?_, ?_⟩
  · intro x hx
    rw [List.mem_append, List.mem_singleton, List.mem_singleton] at hx
    rcases hx with rfl | rfl
    · exact h.sep _ (by simp)
    · exact h.sep l (by simp)
  · intro x hx
    rw [List.mem_append, List.mem_singleton, List.mem_singleton] at hx
    rcases hx with rfl | rfl
    · exact h.sep _ (by simp)
    · exact h.sep l (by simp)
  · intro k hk
    simp only [updI]
    split
    · rename_i hkn
      subst hkn
      exact ⟨hn, ha.1, ha.2, h12⟩
    · rename_i hkn
      refine h.ok k ?_
      dsimp only at hk
      rw [hks] at hk
      split at hk
      · exact hk
      · rw [List.mem_append, List.mem_singleton] at hk
        exact hk.resolve_right hkn
theorem conv_one (W : World) (z : Int) (h0 : 0 ≤ z) (h1 : z < 256) : (convert 22 9 (.slice (some ⟨W.heap.size, 0, none⟩) 1 1)).run Try.prog (W.alloc (.cells #[.int .u8 z] 5)) = .ok (.string ⟨#[UInt8.ofNat z.toNat]⟩) (W.alloc (.cells #[.int .u8 z] 5)) := by
  rw [run_convert_bytes_string _ _ _ _ _ _ _ Try.underlying22 Try.underlying5 Try.underlying9]
  rw [run_bytesToString _ _ _ _ [z] (by simp [loadCells, loadCellsFrom, go_sem, Addr.add])]
  rfl
theorem conv_nm (W : World) (x : Nat) : (convert 22 9 (.slice (some ⟨W.heap.size, 0, none⟩) 1 1)).run Try.prog (W.alloc (.cells #[.int .u8 (97 + (x : Int) % 12)] 5)) = .ok (.string ⟨#[UInt8.ofNat (97 + x % 12)]⟩) (W.alloc (.cells #[.int .u8 (97 + (x : Int) % 12)] 5)) := by
  rw [conv_one W (97 + (x : Int) % 12) (by omega) (by omega), show (97 + (x : Int) % 12).toNat = 97 + x % 12 by omega]
theorem app_nm (x : Nat) : (ByteArray.mk #[110]) ++ ByteArray.mk #[UInt8.ofNat (97 + x % 12)] = S (nm x) := ByteArray.mk_append_mk [110] [UInt8.ofNat (97 + x % 12)]
theorem conv_ex (W : World) (x : Nat) : ∃ s1 n, (convert 22 9 (.slice (some ⟨W.heap.size, 0, none⟩) 1 1)).run Try.prog (W.alloc (.cells #[.int .u8 (97 + (x : Int) % 12)] 5)) = .ok (.string s1) (W.alloc (.cells #[.int .u8 (97 + (x : Int) % 12)] 5)) ∧ s1.size = 1 ∧ ByteArray.mk #[110] ++ s1 = S n ∧ isName n = true ∧ n ∈ names12 := ⟨_, nm x, conv_nm W x, rfl, app_nm x, nm_is x, nm_mem x⟩
theorem S_tl (m : Nm) : (S m).toList = m := by rw [ByteArray.toList_eq]; simp [S]
theorem bytesLess_eq' : ∀ (x y : List UInt8), Op.bytesLess x y = decide (x < y)
  | [], [] => by simp [Op.bytesLess]
  | [], _ :: _ => by simp [Op.bytesLess]
  | _ :: _, [] => by simp [Op.bytesLess]
  | a :: x, b :: y => by
    rw [Op.bytesLess, bytesLess_eq' x y, Bool.eq_iff_iff]
    simp only [List.cons_lt_cons_iff]
    by_cases h1 : a < b <;> by_cases h2 : a = b <;> by_cases h3 : x < y <;> simp [h1, h2, h3]
theorem less_yes {a b : Nm} (h : a < b) : Op.bytesLess (S a).toList (S b).toList = true := by
  rw [S_tl, S_tl, bytesLess_eq']; simpa using h
/-- The names in their order rise strictly. -/
theorem rise {ss : List Nm} (hn : ss.Nodup) {i : Nat} (h : i + 1 < (ss.mergeSort (fun x y => decide (x ≤ y))).length) : (ss.mergeSort (fun x y => decide (x ≤ y)))[i] < (ss.mergeSort (fun x y => decide (x ≤ y)))[i + 1] := by
  have hp := List.mergeSort_perm ss (fun x y => decide (x ≤ y))
  have hnd : (ss.mergeSort (fun x y => decide (x ≤ y))).Nodup := hp.nodup_iff.2 hn
  have hs := List.pairwise_mergeSort (le := fun (x y : Nm) => decide (x ≤ y)) (by
    intro a b c h1 h2
    simp only [decide_eq_true_eq] at *
    exact List.le_trans h1 h2) (by
    intro a b
    simp only [Bool.or_eq_true, decide_eq_true_eq]
    exact List.le_total a b) ss
  have h1 := List.pairwise_iff_getElem.1 hs i (i + 1) (by omega) h (by omega)
  have h2 := List.pairwise_iff_getElem.1 hnd i (i + 1) (by omega) h (by omega)
  simp only [decide_eq_true_eq] at h1
  rcases List.le_iff_lt_or_eq.1 h1 with h3 | h3
  · exact h3
  · exact absurd h3 h2
theorem filter_len {l : List Nm} (hn : l.Nodup) {k : Nm} (h : k ∈ l) : (l.filter (fun x => !decide (x = k))).length + 1 = l.length := by
  induction l with
  | nil => cases h
  | cons a l ih =>
    rw [List.nodup_cons] at hn
    by_cases ha : a = k
    · subst ha
      have : l.filter (fun x => !decide (x = a)) = l := List.filter_eq_self.2 (fun x hx => by
        have : x ≠ a := fun e => hn.1 (e ▸ hx)
        simp [this])
      rw [List.filter_cons_of_neg (by simp), this, List.length_cons]
    · rw [List.filter_cons_of_pos (by simp [ha]), List.length_cons, List.length_cons, ih hn.2 (by
        rcases List.mem_cons.1 h with e | h
        · exact absurd e.symm ha
        · exact h)]
theorem names_form {w : World} {B : Nat} {v : Value} {ss ks : List Nm} (hp : ss.Perm ks) (hn : ks.Nodup) (hr : w.ownsRow B 9 1 v ss.length ((ss.mergeSort (fun x y => decide (x ≤ y))).map encStr)) :
    ∃ (A : Option Addr) (c : Nat) (m : List Nm), v = .slice A m.length c ∧ Reads w w.heap.size 1 A m.length (m.map fun k => Value.string (S k)) ∧ m.Perm ks ∧ ∀ i (h : i + 1 < m.length), m[i] < m[i + 1] := by
  obtain ⟨A, c, hv, hrd⟩ := own_form hr
  have hl : (ss.mergeSort (fun x y => decide (x ≤ y))).length = ss.length := List.length_mergeSort ss
  rw [← hl] at hv hrd
  exact ⟨A, c, _, hv, hrd, (List.mergeSort_perm ss _).trans hp, fun i h => rise (hp.nodup_iff.2 hn) h⟩
end Go.Proofs.Ytibpekgmgidebaa.Sc
