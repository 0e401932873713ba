/- Trees out of seeds; what stands behind a grown tree's text. Plain. -/
import Derived.Test.YtnboenmkngjhmaaF7
set_option linter.unusedSimpArgs false
set_option linter.unusedVariables false
namespace Go.Proofs.Ytnboenmkngjhmaa.Ex
open Tr (Nd Fo)
open Lx (Tk noTk scanL lex at_ lex_app lex_nil scan_lex bt)

/-- A tree out of seeds, and how many were used. -/
def grownP : Nat → List (Nat × Nat) → Gr × Nat
  | 0, _ => (.z, 0)
  | _ + 1, [] => (.z, 0)
  | d + 1, (a, n) :: l =>
    if a % 9 ≤ 2 then (.bin (n % 15) (grownP d l).1 (grownP d (l.drop (grownP d l).2)).1, 1 + (grownP d l).2 + (grownP d (l.drop (grownP d l).2)).2)
    else if a % 9 = 3 then (.un (n % 3) (grownP d l).1, 1 + (grownP d l).2)
    else if a % 9 = 4 then (.num n, 1)
    else if a % 9 = 5 then (.idx (grownP d l).1, 1 + (grownP d l).2)
    else if a % 9 = 6 then (.call (grownP d l).1 (grownP d (l.drop (grownP d l).2)).1, 1 + (grownP d l).2 + (grownP d (l.drop (grownP d l).2)).2)
    else if a % 9 = 7 then (.rng (grownP d l).1 (grownP d (l.drop (grownP d l).2)).1, 1 + (grownP d l).2 + (grownP d (l.drop (grownP d l).2)).2)
    else (.str, 1)
theorem grownP_succ (d a n : Nat) (l : List (Nat × Nat)) : grownP (d + 1) ((a, n) :: l) =
    if a % 9 ≤ 2 then (.bin (n % 15) (grownP d l).1 (grownP d (l.drop (grownP d l).2)).1, 1 + (grownP d l).2 + (grownP d (l.drop (grownP d l).2)).2)
    else if a % 9 = 3 then (.un (n % 3) (grownP d l).1, 1 + (grownP d l).2)
    else if a % 9 = 4 then (.num n, 1)
    else if a % 9 = 5 then (.idx (grownP d l).1, 1 + (grownP d l).2)
    else if a % 9 = 6 then (.call (grownP d l).1 (grownP d (l.drop (grownP d l).2)).1, 1 + (grownP d l).2 + (grownP d (l.drop (grownP d l).2)).2)
    else if a % 9 = 7 then (.rng (grownP d l).1 (grownP d (l.drop (grownP d l).2)).1, 1 + (grownP d l).2 + (grownP d (l.drop (grownP d l).2)).2)
    else (.str, 1) := rfl
theorem op_sizes : ∀ k, k < 15 → (opTx k).length ≤ 3 := by decide
theorem un_sizes : ∀ k, k < 3 → (unT k).length ≤ 3 := by decide
theorem dec_length (n : Nat) (h : n ≤ 65535) : (Lib.decDigits n).length ≤ 5 := by
  have h1 : ∀ (k n : Nat), n < 10 ^ (k + 1) → (Lib.decDigits n).length ≤ k + 1 := by
    intro k
    induction k with
    | zero => intro n hn; rw [Num.dec_small n (by omega)]; simp
    | succ k ih =>
      intro n hn
      by_cases h9 : 9 < n
      · rw [Num.dec_big n h9, List.length_append]
        have := ih (n / 10) (by rw [Nat.pow_succ] at hn; omega)
        simp only [List.length_singleton]
        omega
      · rw [Num.dec_small n h9]; simp
  exact h1 4 n (by omega)
theorem cnt_bin (kind : Nat) (p : Nat × Nat) (s : ByteArray) (n : Int) (x y : T1) : cntT (mk kind p s n [x, y]) = 1 + cntT x + cntT y := cnt_2 kind p s n x y
theorem nm_cnt (c : UInt8) : cntT (nm c) = 1 := rfl
/-- How great what is grown can be. -/
theorem grown_ok : ∀ (d : Nat) (l : List (Nat × Nat)), (∀ s ∈ l, s.2 ≤ 65535) → (grownP d l).1.fits ∧ (grownP d l).2 ≤ l.length ∧ (grownP d l).1.text.length ≤ 9 * (grownP d l).2 + 1 ∧ cntT (grownP d l).1.tree ≤ 4 * (grownP d l).2 + 1
  | 0, l, _ => ⟨trivial, Nat.zero_le _, by simp [grownP, Gr.text], by simp [grownP, Gr.tree, nm_cnt]⟩
  | d + 1, [], _ => ⟨trivial, Nat.zero_le _, by simp [grownP, Gr.text], by simp [grownP, Gr.tree, nm_cnt]⟩
  | d + 1, (a, n) :: l, h => by
    have hl : ∀ s ∈ l, s.2 ≤ 65535 := fun s hs => h s (by simp [hs])
    have hn : n ≤ 65535 := h (a, n) (by simp)
    obtain ⟨f1, u1, t1, c1⟩ := grown_ok d l hl
    obtain ⟨f2, u2, t2, c2⟩ := grown_ok d (l.drop (grownP d l).2) (fun s hs => hl s (List.mem_of_mem_drop hs))
    rw [List.length_drop] at u2
    have ho := op_sizes (n % 15) (by omega)
    have hu := un_sizes (n % 3) (by omega)
    have hd := dec_length n hn
    unfold grownP
    generalize (grownP d l).1 = ga at *
    generalize (grownP d l).2 = k at *
    generalize (grownP d (l.drop k)).1 = gb at *
    generalize (grownP d (l.drop k)).2 = m at *
    split
    · refine ⟨⟨by omega, f1, f2⟩, ?_, ?_, ?_⟩
      · simp only [List.length_cons]; omega
      · simp only [Gr.text, List.length_cons, List.length_append, List.length_nil]; omega
      · simp only [Gr.tree]; rw [cnt_2]; omega
    · split
      · refine ⟨⟨by omega, f1⟩, ?_, ?_, ?_⟩
        · simp only [List.length_cons]; omega
        · simp only [Gr.text, List.length_cons, List.length_append, List.length_nil]; omega
        · simp only [Gr.tree]; rw [cnt_1]; omega
      · split
        · refine ⟨hn, ?_, ?_, ?_⟩
          · simp only [List.length_cons]; omega
          · simp only [Gr.text]; omega
          · simp only [Gr.tree]; rw [cnt_mk, cntL_nil]; omega
        · split
          · refine ⟨f1, ?_, ?_, ?_⟩
            · simp only [List.length_cons]; omega
            · simp only [Gr.text, List.length_cons, List.length_append, List.length_nil]; omega
            · simp only [Gr.tree]; rw [cnt_1, cnt_1, cnt_2, nm_cnt]; omega
          · split
            · refine ⟨⟨f1, f2⟩, ?_, ?_, ?_⟩
              · simp only [List.length_cons]; omega
              · simp only [Gr.text, List.length_cons, List.length_append, List.length_nil]; omega
              · simp only [Gr.tree]; rw [cnt_mk, cntL_cons, cntL_cons, cntL_cons, cntL_nil, nm_cnt]; omega
            · split
              · refine ⟨⟨f1, f2⟩, ?_, ?_, ?_⟩
                · simp only [List.length_cons]; omega
                · simp only [Gr.text, List.length_cons, List.length_append, List.length_nil]; omega
                · simp only [Gr.tree]; rw [cnt_2, nm_cnt, cnt_2]; omega
              · refine ⟨trivial, ?_, ?_, ?_⟩
                · simp only [List.length_cons]; omega
                · simp only [Gr.text, List.length_cons, List.length_nil]; omega
                · simp only [Gr.tree]; rw [cnt_mk, cntL_nil]; omega
/-! ### What stands behind -/
def endsB : List ByteArray := [⟨#[]⟩, ⟨#[41]⟩, ⟨#[59]⟩, ⟨#[84, 72, 69, 78]⟩, ⟨#[93]⟩, ⟨#[58, 61]⟩, ⟨#[69, 78, 68]⟩, ⟨#[46, 46]⟩]
def endB (k : Nat) : ByteArray := endsB.getD k ⟨#[]⟩
def endTk (k : Nat) : List Tk := if k = 0 then [] else [⟨if k = 3 ∨ k = 6 then 6 else 5, endB k, 0⟩]
theorem lex_ends : ∀ k, k < 8 → lex (endB k).data.toList = some (endTk k) := by
  intro k hk
  iterate 8 (rcases k with _ | k; · kernel_rfl)
  omega
theorem stop_ends : ∀ k, k < 8 → StopE ((endTk k).head?.getD noTk) := by
  intro k hk
  iterate 8 (rcases k with _ | k; · exact stopE_of (by decide) (by decide) (by decide) (by decide) (by decide) (by decide) (by decide) (by decide))
  omega
theorem atT_of {L : List PT} : ∀ (l : List Tk) (r : List Tk) (i : Nat), (∀ k, k < l.length → (tk L (i + k)).1 = ((l ++ r)[k]?).getD noTk) → AtT L i l
  | [], r, i, h => trivial
  | t :: l, r, i, h => by
    refine ⟨?_, atT_of l r (i + 1) fun k hk => ?_⟩
    · have := h 0 (by simp)
      simpa using this
    · have := h (k + 1) (by simp; omega)
      rw [show i + 1 + k = i + (k + 1) from by omega]
      simpa using this
/-- THE THEOREM, plain. -/
theorem back_plain (g : Gr) (hg : g.fits) (k : Nat) (hk : k < 8) (hl : g.text.length ≤ 10000) (hk2 : (endB k).size ≤ 10) : ∃ x, exprP (rowP (g.text ++ 32 :: (endB k).data.toList)) 0 = .ok (x, (rowP g.text).length) ∧ Bare g.tree x := by
  have h1 := row_some (by omega) (lex_texts g hg)
  have h2 : lex (g.text ++ 32 :: (endB k).data.toList) = some (g.toks ++ endTk k) := by
    rw [lex_app _ _ _ _ (Nat.le_refl _) (lex_texts g hg), lex_ends k hk]; rfl
  have h3 := row_some (by simp; omega) h2
  have hn : (rowP g.text).length = g.toks.length := by rw [← h1, List.length_map]
  rw [hn]
  generalize rowP (g.text ++ 32 :: (endB k).data.toList) = L at *
  have ha : AtT L 0 g.toks := atT_of g.toks (endTk k) 0 fun j hj => by rw [tk_map, h3, Nat.zero_add]
  have hs : StopE (tk L (0 + g.toks.length)).1 := by
    rw [tk_map, h3, Nat.zero_add, List.getElem?_append_right (Nat.le_refl _), Nat.sub_self, ← List.head?_eq_getElem?]
    exact stop_ends k hk
  obtain ⟨x, e, b⟩ := expr_grown g hg 0 ha hs
  rw [Nat.zero_add] at e
  exact ⟨x, e, b⟩
end Go.Proofs.Ytnboenmkngjhmaa.Ex
