/- Numbers' digits, plain; the walk of the law's digits. -/
import Derived.Test.YtkiedbanobjmlaaDoorL15
set_option linter.unusedSimpArgs false
set_option linter.unusedVariables false
namespace Go.Proofs.YtkiedbanobjmlaaDoor.Lx
open Go.RowKit
open Pl Fl

/-- A digit, capital letters too. -/
def chD (d : Nat) : UInt8 := if d < 10 then UInt8.ofNat (48 + d) else UInt8.ofNat (55 + d)
/-- A number's digits, of a base. -/
def digs (B n : Nat) : List UInt8 := if h : n < B ∨ B < 2 then [chD n] else digs B (n / B) ++ [chD (n % B)]
termination_by n
decreasing_by exact Nat.div_lt_self (by omega) (by omega)
theorem digs_small {B n : Nat} (h : n < B) : digs B n = [chD n] := by rw [digs, dif_pos (.inl h)]
theorem digs_big {B n : Nat} (h : B ≤ n) (h2 : 2 ≤ B) : digs B n = digs B (n / B) ++ [chD (n % B)] := by rw [digs, dif_neg (by omega)]
theorem chD_facts : ∀ d, d < 16 → dgt (chD d) = d ∧ isX (chD d) = true ∧ (d < 10 → isD (chD d) = true) := by decide
theorem digs_ne (B n : Nat) : digs B n ≠ [] := by
  rw [digs]
  split <;> simp
theorem digs_isX {B : Nat} (hB : 2 ≤ B) (h16 : B ≤ 16) : ∀ (n : Nat), ∀ c ∈ digs B n, isX c = true := by
  intro n
  induction n using Nat.strongRecOn with
  | _ n ih =>
    intro c hc
    by_cases h : n < B
    · rw [digs_small h, List.mem_singleton] at hc
      rw [hc]; exact (chD_facts n (by omega)).2.1
    · rw [digs_big (by omega) hB] at hc
      rcases List.mem_append.1 hc with hc | hc
      · exact ih _ (Nat.div_lt_self (by omega) hB) c hc
      · rw [List.mem_singleton.1 hc]
        exact (chD_facts _ (by have := Nat.mod_lt n (show B > 0 by omega); omega)).2.1
theorem digs_isD {B : Nat} (hB : 2 ≤ B) (h10 : B ≤ 10) : ∀ (n : Nat), ∀ c ∈ digs B n, isD c = true := by
  intro n
  induction n using Nat.strongRecOn with
  | _ n ih =>
    intro c hc
    by_cases h : n < B
    · rw [digs_small h, List.mem_singleton] at hc
      rw [hc]; exact (chD_facts n (by omega)).2.2 (by omega)
    · rw [digs_big (by omega) hB] at hc
      rcases List.mem_append.1 hc with hc | hc
      · exact ih _ (Nat.div_lt_self (by omega) hB) c hc
      · rw [List.mem_singleton.1 hc]
        have := Nat.mod_lt n (show B > 0 by omega)
        exact (chD_facts _ (by omega)).2.2 (by omega)
theorem pU_digs {B : Nat} (hB : 2 ≤ B) (h16 : B ≤ 16) (r : List UInt8) : ∀ (n : Nat), n < 1000000 → pU B 0 (digs B n ++ r) = pU B n r := by
  intro n
  induction n using Nat.strongRecOn generalizing r with
  | _ n ih =>
    intro hn
    have step : ∀ (m d : Nat), d < B → m < 1000000 → pU B m (chD d :: r) = pU B (m * B + d) r := by
      intro m d hd hm
      have hf := (chD_facts d (by omega)).1
      have hmb : m * B ≤ m * 16 := Nat.mul_le_mul_left m h16
      rw [pU_step (by rw [hf]; omega) (by rw [hf]; omega), hf]
    by_cases h : n < B
    · rw [digs_small h]
      show pU B 0 (chD n :: r) = _
      rw [step 0 n h (by omega)]
      simp
    · have hlt := Nat.div_lt_self (show 0 < n by omega) hB
      rw [digs_big (by omega) hB, List.append_assoc]
      rw [ih (n / B) hlt ([chD (n % B)] ++ r) (by omega)]
      show pU B (n / B) (chD (n % B) :: r) = _
      rw [step _ _ (Nat.mod_lt n (by omega)) (by omega), Nat.mul_comm, Nat.div_add_mod]
theorem pU_zeros {B : Nat} (hB : 2 ≤ B) (r : List UInt8) : ∀ k, pU B 0 (List.replicate k 48 ++ r) = pU B 0 r
  | 0 => rfl
  | k + 1 => by
    rw [List.replicate_succ, List.cons_append]
    have h48 : dgt 48 = 0 := rfl
    rw [pU_step (by rw [h48]; omega) (by rw [h48]; omega), h48, Nat.zero_mul]
    exact pU_zeros hB r k
/-- The value of such digits, zeros ahead. -/
theorem valR_digs {B M : Nat} (hB : 2 ≤ B) (h16 : B ≤ 16) (hM : M < 18446744073709551616) (k : Nat) {n : Nat} (hn : n < 1000000) : valR B M (List.replicate k 48 ++ digs B n) = if n ≤ M then some n else none := by
  have hne : List.replicate k 48 ++ digs B n ≠ [] := fun e => digs_ne B n (List.append_eq_nil_iff.1 e).2
  rw [valR_pU B M hB hM hne, pU_zeros hB]
  have := pU_digs hB h16 [] n hn
  rw [List.append_nil] at this
  rw [this]
  rfl
theorem runN_all_eq {p : UInt8 → Bool} : ∀ {l r : List UInt8}, (∀ c ∈ l, p c = true) → (∀ c, r.head? = some c → p c = false) → runN p (l ++ r) = l.length
  | [], r, _, hr => by
    rcases r with _ | ⟨c, r⟩
    · rfl
    · exact runN_no (hr c rfl) r
  | a :: l, r, h, hr => by
    rw [List.cons_append, runN_yes (h a (by simp)), runN_all_eq (fun c hc => h c (List.mem_cons_of_mem _ hc)) hr, List.length_cons]
def numItem (n : Nat) : Option Tk → Item
  | none => .bad 41
  | some t => .tok t n
def numScan (n : Nat) : Option Tk → Except (Nat × Nat) (List Tok)
  | none => .error (0, 41)
  | some t => .ok [(t, 0, n), (noTk, n, n)]
/-- A text that is a number as a whole. -/
structure NumText (T : List UInt8) (v : Option Tk) : Prop where
  head : ∃ c r, T = c :: r ∧ isD c = true
  run : (∀ c ∈ T, isX c = true) ∨ ∃ T', T = T' ++ [72] ∧ ∀ c ∈ T', isX c = true
  val : numN T = v
theorem isD_not {c : UInt8} (h : isD c = true) : isB c = false ∧ isL c = false ∧ c ≠ 40 := by
  have h2 := h
  unfold isD at h2
  simp only [Bool.and_eq_true, decide_eq_true_eq] at h2
  refine ⟨?_, not_isL_of_isD h, ?_⟩
  · cases hb : isB c
    · rfl
    · exfalso
      unfold isB at hb
      simp only [Bool.or_eq_true, beq_iff_eq] at hb
      rcases hb with ((rfl | rfl) | rfl) | rfl <;> revert h2 <;> decide
  · rintro rfl; revert h2; decide
theorem NumText.item {T : List UInt8} {v : Option Tk} (h : NumText T v) (r : List UInt8) (hr : ∀ c, r.head? = some c → isX c = false ∧ c ≠ 72) : item (T ++ r) = numItem T.length v := by
  obtain ⟨⟨c, T1, rfl, hc⟩, hrun, rfl⟩ := h
  obtain ⟨n1, n2, n3⟩ := isD_not hc
  have hone : oneN ((c :: T1) ++ r) = match numN (c :: T1) with | none => .error 41 | some t => .ok (t, (c :: T1).length) := by
    rw [List.cons_append]
    unfold oneN
    simp only [List.head?_cons, Option.getD_some, n2, hc, if_true, Bool.false_eq_true, if_false]
    have hlen : (if (c :: (T1 ++ r))[runN isX (c :: (T1 ++ r))]? = some 72 then runN isX (c :: (T1 ++ r)) + 1 else runN isX (c :: (T1 ++ r))) = (c :: T1).length := by
      rcases hrun with hall | ⟨T', hT, hall⟩
      · have hk : runN isX (c :: (T1 ++ r)) = (c :: T1).length := by
          rw [← List.cons_append]; exact runN_all_eq hall fun x hx => (hr x hx).1
        rw [hk, if_neg]
        rw [← List.cons_append, List.getElem?_append_right (Nat.le_refl _), Nat.sub_self]
        intro e
        have : r.head? = some 72 := by rw [← e]; exact List.head?_eq_getElem? ..
        exact (hr 72 this).2 rfl
      · have hk : runN isX (c :: (T1 ++ r)) = T'.length := by
          rw [← List.cons_append, hT, List.append_assoc]
          refine runN_all_eq hall fun x hx => ?_
          rw [List.singleton_append, List.head?_cons] at hx
          injection hx with hx
          subst hx
          rfl
        rw [hk, if_pos]
        · rw [hT]; simp
        · rw [← List.cons_append, hT, List.append_assoc, List.getElem?_append_right (Nat.le_refl _), Nat.sub_self]
          rfl
    rw [hlen]
    have ht : (c :: (T1 ++ r)).take (c :: T1).length = c :: T1 := by
      rw [← List.cons_append, List.take_left]
    rw [ht] <;> (cases numN (c :: T1) <;> rfl)
  have hi : Lx.item ((c :: T1) ++ r) = match oneN ((c :: T1) ++ r) with | .error e => .bad e | .ok (t, n) => .tok t n := by
    have h2 : ¬ ((c :: T1) ++ r).take 2 = [40, 42] := by
      intro e
      have := congrArg List.head? e
      simp at this
      exact n3 this
    rw [Lx.item, if_neg (by simp [n1]), if_neg h2] <;> (cases oneN ((c :: T1) ++ r) <;> rfl)
  rw [hi, hone]
  cases numN (c :: T1) <;> rfl
/-- What a text that is a number as a whole is scanned as. -/
theorem NumText.scan {T : List UInt8} {v : Option Tk} (h : NumText T v) (hl : T.length ≤ 16384) : scanL T = numScan T.length v := by
  have hne : 0 < T.length := by obtain ⟨⟨c, T1, rfl, _⟩, _, _⟩ := h; simp
  have hit := h.item [] (fun c hc => by cases hc)
  rw [List.append_nil] at hit
  rw [scanL_eq, if_neg (by omega), scanAt_step hne, List.drop_zero, hit]
  cases v with
  | none => rfl
  | some t =>
    dsimp only [numItem]
    rw [Nat.zero_add, scanAt_end (Nat.le_refl _)]
    rfl
end Go.Proofs.YtkiedbanobjmlaaDoor.Lx
