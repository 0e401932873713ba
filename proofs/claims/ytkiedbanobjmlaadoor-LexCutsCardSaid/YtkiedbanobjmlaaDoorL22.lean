/- LexBlanks: bytes that came in; the law's text, plain. -/
import Derived.Test.YtkiedbanobjmlaaDoorL21
import Derived.Test.YtkiedbanobjmlaaDoorL19
import Derived.ChangeSlices
import Derived.OpenShut
set_option linter.unusedSimpArgs false
set_option linter.unusedVariables false
namespace Go.Proofs.YtkiedbanobjmlaaDoor.Lx
open Go.RowKit Go.ChangeShapes Go.WideShapes
open Pl Fl

/-- A slice of bytes that came in. -/
structure Bs (w : World) (A : Option Addr) (c : Nat) (l : List Nat) : Prop where
  reads : Reads w w.heap.size 1 A l.length (l.map fun x => Value.int .u8 (x : Nat))
  cap : l.length ≤ c
  max : c ≤ 9223372036854775807
  small : ∀ x ∈ l, x < 256
theorem open_bytes {H : Type} {enc : TypeId × Value → H} {W : World} {v : Value} {d : DataW H} {p : List MemPlace} (h : DataW.Trod enc Tryd.prog W 0 (fun _ => true) true 32 v d p) (_hz : ∀ n ∈ d.weights Tryd.prog 32, n ≤ reachBytes) (hone1 : ∃ A n c, v = .slice A n c) :
    ∃ A c l, v = .slice A l.length c ∧ Bs W A c l := by
  obtain ⟨A0, n0, c0, rfl⟩ := hone1
  obtain ⟨fuel, hf⟩ := h
  rcases open_ints Tryd.underlying32 Tryd.underlying5 (by kernel_rfl) hf with ⟨hcs, _⟩ | ⟨a, n, c, zs, hcs, _, hl, hm, hz, _, hcell, hwz⟩
  · simp [Value.cells] at hcs
    obtain ⟨rfl, rfl, rfl⟩ := hcs
    exact ⟨none, 0, [], rfl, ⟨by simp, fun h => absurd h (by simp)⟩, by simp, by omega, fun x hx => by simp at hx⟩
  · simp [Value.cells] at hcs
    obtain ⟨rfl, rfl, rfl⟩ := hcs
    rw [if_pos rfl] at hz
    have hbn : ∀ z ∈ zs, 0 ≤ z ∧ z < 256 := fun z hz => by have := bounds_u8 (hwz z hz); omega
    have hll : ((zs.take n0).map Int.toNat).length = n0 := by rw [List.length_map, List.length_take]; omega
    refine ⟨some a, c0, (zs.take n0).map Int.toNat, by rw [hll], ⟨by simp, fun h0 => ?_⟩, by rw [hll]; exact hl, by unfold maxLen at hm; omega, ?_⟩
    · rw [hll] at h0
      refine ⟨a, rfl, ?_, fun j u hu => ?_⟩
      · have := World.block_lt_of_cell? W _ (hcell 0 (by omega))
        rwa [block_of_add] at this
      · have hj : j < n0 := by
          have := (List.getElem?_eq_some_iff.1 hu).1
          rw [List.length_map, hll] at this; exact this
        have hjz : j < zs.length := by omega
        rw [hcell j hjz, ← hu]
        rw [List.getElem?_map, List.getElem?_map, List.getElem?_take, if_pos hj, List.getElem?_eq_getElem hjz, List.getD_eq_getElem?_getD, List.getElem?_eq_getElem hjz]
        have := hbn zs[j] (List.getElem_mem _)
        simp only [Option.map_some, Option.getD_some]
        rw [Int.toNat_of_nonneg this.1]
    · intro x hx
      obtain ⟨z, hz2, rfl⟩ := List.mem_map.1 hx
      have := hbn z (List.mem_of_mem_take hz2)
      omega
/-- Which blank comes behind the i-th token. -/
def kf (l : List Nat) (i : Nat) : Nat := if h : i < l.length then l[i] % 6 else 0
theorem kf_lt (l : List Nat) (i : Nat) : kf l i < 6 := by
  unfold kf
  split
  · exact Nat.mod_lt _ (by omega)
  · omega
def blkL (k : Nat) : List UInt8 := (blks.getD k ⟨#[]⟩).data.toList
theorem blk_mem {k : Nat} (h : k < 6) : blks.getD k ⟨#[]⟩ ∈ blks := by
  have : k < blks.length := h
  rw [List.getD_eq_getElem?_getD, List.getElem?_eq_getElem this]
  exact List.getElem_mem _
theorem blk_len {k : Nat} (h : k < 6) : (blkL k).length ≤ 19 := by
  rcases (show k = 0 ∨ k = 1 ∨ k = 2 ∨ k = 3 ∨ k = 4 ∨ k = 5 by omega) with rfl | rfl | rfl | rfl | rfl | rfl <;> decide
/-- What one token adds. -/
def addB (b : List Nat) (t : Tok) (i : Nat) : List UInt8 := if t.1.kind = 0 then [] else txt t.1 ++ blkL (kf b i)
def accB (b : List Nat) (l : List Tok) : Nat → List UInt8
  | 0 => []
  | i + 1 => accB b l i ++ (match l[i]? with | some t => addB b t i | none => [])
theorem accB_step (b : List Nat) {l : List Tok} {i : Nat} (h : i < l.length) : accB b l (i + 1) = accB b l i ++ addB b l[i] i := by
  rw [accB, List.getElem?_eq_getElem h]
/-- Those that are no end. -/
def real (l : List Tok) : List Tk := (l.filter fun t => t.1.kind != 0).map (·.1)
theorem real_step {l : List Tok} {i : Nat} (h : i < l.length) : real (l.take (i + 1)) = real (l.take i) ++ (if l[i].1.kind = 0 then [] else [l[i].1]) := by
  unfold real
  rw [List.take_add_one, List.getElem?_eq_getElem h]
  simp only [Option.toList, List.filter_append, List.map_append]
  congr 1
  by_cases hk : l[i].1.kind = 0
  · simp [hk]
  · simp [hk]
theorem lex_accB (b : List Nat) {l : List Tok} (hl : ∀ t ∈ l, t.1.kind ≠ 0 → TkOK t.1) : ∀ (i : Nat), i ≤ l.length → ∀ r, lex (accB b l i ++ r) = (lex r).map (real (l.take i) ++ ·)
  | 0, _, r => by
    show lex r = _
    cases lex r <;> rfl
  | i + 1, h, r => by
    have hi : i < l.length := by omega
    rw [accB_step b hi, List.append_assoc, lex_accB b hl i (by omega), real_step hi]
    unfold addB
    by_cases hk : l[i].1.kind = 0
    · rw [if_pos hk, if_pos hk, List.append_nil, List.nil_append]
    · rw [if_neg hk, if_neg hk]
      obtain ⟨h1, h2⟩ := lex_blk (blk_mem (kf_lt b i)) r
      rw [List.append_assoc, lex_txt (hl _ (List.getElem_mem hi) hk) (show sepR (blkL (kf b i) ++ r) from h2)]
      rw [show lex (blkL (kf b i) ++ r) = lex r from h1]
      cases lex r with
      | none => rfl
      | some q => simp
theorem accB_len (b : List Nat) {l : List Tok} : ∀ (i : Nat), i ≤ l.length → (accB b l i).length ≤ ((l.take i).map fun t => (txt t.1).length + 1).sum + 19 * i
  | 0, _ => by simp [accB]
  | i + 1, h => by
    have hi : i < l.length := by omega
    have ih := accB_len b (l := l) i (by omega)
    rw [accB_step b hi, List.length_append, List.take_add_one, List.getElem?_eq_getElem hi]
    simp only [Option.toList, List.map_append, List.map_cons, List.map_nil, List.sum_append, List.sum_cons, List.sum_nil]
    have : (addB b l[i] i).length ≤ (txt l[i].1).length + 19 := by
      unfold addB
      split
      · simp
      · rw [List.length_append]
        have := blk_len (kf_lt b i)
        omega
    omega
theorem sum_take_le (f : Tok → Nat) : ∀ (l : List Tok) (i : Nat), ((l.take i).map f).sum ≤ (l.map f).sum
  | [], i => by simp
  | t :: l, 0 => by simp
  | t :: l, i + 1 => by
    simp only [List.take_succ_cons, List.map_cons, List.sum_cons]
    have := sum_take_le f l i
    omega
theorem le_sum (f : Tok → Nat) : ∀ (l : List Tok) (t : Tok), t ∈ l → f t ≤ (l.map f).sum
  | a :: l, t, h => by
    simp only [List.map_cons, List.sum_cons]
    rcases List.mem_cons.1 h with rfl | h
    · omega
    · have := le_sum f l t h; omega
theorem TkOK.toR {t : Tk} (h : TkOK t) (hl : (txt t).length ≤ 1000000) : TkR t := by
  cases h with
  | name x h0 hp hl2 hw => exact ⟨by show x.size ≤ _; have : x.data.toList.length = x.size := by simp
                                     omega, by simp, by simp⟩
  | word x hw => exact ⟨by
      have h2 := (words_ok x (isW_mem hw)).2.2
      have : x.data.toList.length = x.size := by simp
      show x.size ≤ _
      omega, by simp, by simp⟩
  | num n h => exact ⟨Nat.zero_le _, fun _ => ⟨by show (0 : Int) ≤ (n : Int); omega, by show (n : Int) ≤ 65535; omega⟩, by simp⟩
  | chr n h => exact ⟨Nat.zero_le _, fun _ => ⟨by show (0 : Int) ≤ (n : Int); omega, by show (n : Int) ≤ 65535; omega⟩, by simp⟩
  | str x h10 hq => exact ⟨by
      have e4 : txt ⟨4, x, 0⟩ = if x.data.toList.contains 34 then 39 :: (x.data.toList ++ [39]) else 34 :: (x.data.toList ++ [34]) := rfl
      rw [e4] at hl
      have : x.data.toList.length = x.size := by simp
      show x.size ≤ _
      split at hl <;> simp at hl <;> omega, by simp, by simp⟩
  | sym x h => exact ⟨by
      have : x.data.toList.length = x.size := by simp
      have h2 : (txt ⟨5, x, 0⟩).length = x.data.toList.length := rfl
      show x.size ≤ _
      omega, by simp, by simp⟩
/-- The facts of a source's tokens. -/
structure Src (s : List UInt8) (l : List Tok) : Prop where
  ok : ∀ t ∈ l, t.1.kind ≠ 0 → TkOK t.1
  kind : ∀ t ∈ l, t.1.kind < 256
  sum : (l.map fun t => (txt t.1).length + 1).sum ≤ 4 * s.length + 1
  len : l.length ≤ s.length + 1
  real : l.map (·.1) = real l ++ [noTk]
theorem src_of {s : List UInt8} {l : List Tok} (h : scanL s = .ok l) : Src s l := by
  obtain ⟨l', j, rfl, h2, h3, h4⟩ := scanL_ok h
  have hr : real (l' ++ [(noTk, j, j)]) = l'.map (·.1) := by
    unfold real
    rw [List.filter_append, List.filter_eq_self.2 (fun t ht => by have := (h2 t ht).kind.1; simpa using this)]
    simp [noTk]
  refine ⟨?_, ?_, ?_, by rw [List.length_append]; simp only [List.length_singleton]; omega, by rw [hr, List.map_append]; rfl⟩
  · intro t ht hk
    rcases List.mem_append.1 ht with ht | ht
    · exact h2 t ht
    · rw [List.mem_singleton.1 ht] at hk; exact absurd rfl hk
  · intro t ht
    rcases List.mem_append.1 ht with ht | ht
    · exact (h2 t ht).kind.2
    · rw [List.mem_singleton.1 ht]; exact Nat.zero_lt_succ _
  · rw [List.map_append, List.sum_append]
    have : (txt noTk).length = 0 := rfl
    simp only [List.map_cons, List.map_nil, List.sum_cons, List.sum_nil, this]
    omega
theorem scanF_err : ∀ (f i : Nat) (s : List UInt8) (j k : Nat), s.length < f → scanF f i s = .error (j, k) → k = 5 ∨ k = 40 ∨ k = 41 ∨ k = 42 ∨ k = 43 := by
  intro f
  induction f with
  | zero => intro i s j k h; omega
  | succ f ih =>
    intro i s j k hl h
    unfold scanF at h
    split at h
    · cases h
    · rename_i hs
      obtain ⟨b1, b2⟩ := item_bd s hs
      split at h
      · rename_i e hi
        injection h with h
        injection h with h1 h2
        subst h2
        unfold item at hi
        split at hi
        · cases hi
        · split at hi
          · split at hi
            · injection hi with hi; omega
            · cases hi
          · split at hi
            · rename_i k' e'
              injection hi with hi
              have := oneN_err _ _ e'
              omega
            · cases hi
      · rename_i n hi
        have hb := b1 n hi
        exact ih _ _ _ _ (by rw [List.length_drop]; omega) h
      · rename_i t n hi
        have hb := b2 t n hi
        cases e : scanF f (i + n) (s.drop n) with
        | error jk =>
          obtain ⟨j', k'⟩ := jk
          rw [e] at h
          injection h with h
          injection h with h1 h2
          subst h2
          exact ih _ _ _ _ (by rw [List.length_drop]; omega) e
        | ok l => rw [e] at h; cases h
theorem scanL_err {s : List UInt8} {j k : Nat} (h : scanL s = .error (j, k)) : k = 5 ∨ k = 40 ∨ k = 41 ∨ k = 42 ∨ k = 43 := by
  unfold scanL at h
  split at h
  · injection h with h; injection h with h1 h2; omega
  · exact scanF_err _ _ _ _ _ (by omega) h
end Go.Proofs.YtkiedbanobjmlaaDoor.Lx
