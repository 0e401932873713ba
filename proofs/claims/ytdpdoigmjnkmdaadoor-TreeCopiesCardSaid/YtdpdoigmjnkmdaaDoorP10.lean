/- What Atoi gives, and what is read of a text: the plain part. -/
import Derived.Test.YtdpdoigmjnkmdaaDoorP9
import Derived.Lib.AtoiErrMem
set_option linter.unusedSimpArgs false
set_option linter.unusedVariables false
namespace Go.Proofs.YtdpdoigmjnkmdaaDoor.Pl
open Go.RowKit
open Fl
open Num

theorem var_below {w w' : World} {n : String} {cs : Array Value} (h : w.var? Tryd.prog n = some cs) (hb : Below w.heap.size w w') : w'.var? Tryd.prog n = some cs := by
  unfold World.var? at h ⊢
  cases hg : Tryd.prog.globalNamed n with
  | none => rw [hg] at h; exact h
  | some g =>
    rw [hg] at h
    simp only [Option.bind_some] at h ⊢
    cases hh : w.heap[g]? with
    | none => rw [hh] at h; simp at h
    | some o => rw [hb.block g (Array.getElem?_eq_some_iff.1 hh).1, hh]; rw [hh] at h; exact h
/-- The variables that strconv reads. -/
def Tabs (w : World) : Prop := Tab w ∧ (∃ t p, w.var? Tryd.prog "strconv.ErrSyntax" = some #[.iface t p]) ∧ ∃ t p, w.var? Tryd.prog "strconv.ErrRange" = some #[.iface t p]
theorem tabs_below {w w' : World} (h : Tabs w) (hb : Below w.heap.size w w') : Tabs w' := by
  obtain ⟨h1, ⟨t, p, h2⟩, ⟨t', p', h3⟩⟩ := h
  exact ⟨tab_below h1 hb, ⟨t, p, var_below h2 hb⟩, ⟨t', p', var_below h3 hb⟩⟩
theorem atoi_ok (s : ByteArray) (v : Int) (w : World) (hs : s.size ≤ 9223372036854775806) (h : Lib.atoiAll s.data.toList = .ok v) :
    Calls Tryd.prog 54 #[.string s] w fun e w' => e = .returned (.tuple #[.int .i64 v, .nilIface]) ∧ Below w.heap.size w w' :=
  (Tryd.strconv_Atoi_ok s hs v h w).mono fun e w' ⟨he, hw⟩ => ⟨he, by
    rcases hw with rfl | ⟨t, rfl⟩
    · exact Below.refl _ _
    · exact Lib.bytesWorld_below _ _ _⟩
theorem atoi_bad (s : ByteArray) (w : World) (hs : s.size ≤ 281474976710656) (h : ∀ v, Lib.atoiAll s.data.toList ≠ .ok v) (ht : Tabs w) :
    Calls Tryd.prog 54 #[.string s] w fun e w' => ∃ (n : Int) (N : Nat), e = .returned (.tuple #[.int .i64 n, .iface 107 (.pointer (some ⟨N, 0, none⟩))]) ∧ Below w.heap.size w w' := by
  obtain ⟨h1, ⟨t, p, h2⟩, ⟨t', p', h3⟩⟩ := ht
  cases ha : Lib.atoiAll s.data.toList
  · exact absurd ha (h _)
  · exact (Any.strconv_Atoi_syntax_var Tryd.laysC172 s hs ha t p w h2).mono fun e w' ⟨N, he, _, _, hb⟩ => ⟨_, N, he, hb⟩
  · exact (Tryd.strconv_Atoi_range_var s hs ha t' p' w h3).mono fun e w' ⟨N, he, _, _, hb⟩ => ⟨_, N, he, hb⟩

/-- A place of two texts. -/
noncomputable def readP (a b : List UInt8) : Nat × Nat := if isN (numN a, numN b) then (numN a, numN b) else (0, 0)
/-- What is read of a text of which some was passed. -/
noncomputable def readFrom (pre : List UInt8) : List UInt8 → Nat × Nat
  | [] => (0, 0)
  | c :: r => if c.toNat = 58 then readP pre r else readFrom (pre ++ [c]) r
noncomputable def readN (l : List UInt8) : Nat × Nat := readFrom [] l
theorem readFrom_next {pre : List UInt8} {c : UInt8} (r : List UInt8) (h : c.toNat ≠ 58) : readFrom pre (c :: r) = readFrom (pre ++ [c]) r := by rw [readFrom, if_neg h]
theorem readFrom_here {pre : List UInt8} {c : UInt8} (r : List UInt8) (h : c.toNat = 58) : readFrom pre (c :: r) = readP pre r := by rw [readFrom, if_pos h]
theorem readP_ok {a b : List UInt8} (h : isN (numN a, numN b) = true) : readP a b = (numN a, numN b) := by simp [readP, h]
theorem readP_no {a b : List UInt8} (h : isN (numN a, numN b) = false) : readP a b = (0, 0) := by simp [readP, h]
theorem inN_dec (n : Nat) (h : 1 ≤ n ∧ n ≤ 1073741824) : numN (Lib.decDigits n) = n := numN_dec n h.1 h.2
/-- A text that is parted at its first colon is the text of a place just if both parts are its numbers. -/
theorem split_unique {a b x y : List UInt8} (ha : ∀ c ∈ a, c.toNat ≠ 58) (hx : ∀ c ∈ x, c.toNat ≠ 58) (h : a ++ 58 :: b = x ++ 58 :: y) : a = x ∧ b = y := by
  induction a generalizing x with
  | nil =>
    cases x with
    | nil => simpa using h
    | cons c r =>
      simp only [List.nil_append, List.cons_append, List.cons.injEq] at h
      exact absurd (by rw [← h.1]; rfl) (hx c (by simp))
  | cons d t ih =>
    cases x with
    | nil =>
      simp only [List.nil_append, List.cons_append, List.cons.injEq] at h
      exact absurd (by rw [h.1]; rfl) (ha d (by simp))
    | cons c r =>
      simp only [List.cons_append, List.cons.injEq] at h
      obtain ⟨e1, e2⟩ := ih (fun z hz => ha z (by simp [hz])) (fun z hz => hx z (by simp [hz])) h.2
      exact ⟨by rw [h.1, e1], e2⟩
theorem dec_no_colon (n : Nat) : ∀ c ∈ Lib.decDigits n, c.toNat ≠ 58 := fun c hc => by
  have := dec_digits n c hc
  omega
theorem text_of_parts {a b : List UInt8} (h : isN (numN a, numN b) = true) : a = Lib.decDigits (numN a) ∧ b = Lib.decDigits (numN b) ∧ textN (numN a, numN b) = a ++ 58 :: b := by
  have bd := isN_bd h
  have e1 := of_numN (l := a) bd.1.1
  have e2 := of_numN (l := b) bd.2.1
  exact ⟨e1, e2, by rw [textN_in h]; show Lib.decDigits (numN a) ++ 58 :: Lib.decDigits (numN b) = _; rw [← e1, ← e2]⟩
theorem text_not {a b : List UInt8} (ha : ∀ c ∈ a, c.toNat ≠ 58) (h : isN (numN a, numN b) = false) (p : Nat × Nat) : textN p ≠ a ++ 58 :: b := by
  intro e
  cases hp : isN p
  · rw [textN_out hp] at e
    cases a <;> simp at e
  · rw [textN_in hp] at e
    obtain ⟨e1, e2⟩ := split_unique ha (dec_no_colon p.1) e.symm
    have bd := isN_bd hp
    rw [e1, e2, numN_dec _ bd.1.1 bd.1.2, numN_dec _ bd.2.1 bd.2.2] at h
    rw [h] at hp
    cases hp

end Go.Proofs.YtdpdoigmjnkmdaaDoor.Pl
