/- How many nodes a tree has that is read: no more than tokens were passed. Plain. -/
import Derived.Test.YtecmjhohniipoaaF4
set_option linter.unusedSimpArgs false
set_option linter.unusedVariables false
namespace Go.Proofs.Ytecmjhohniipoaa.Ex
open Tr (Nd Fo)
open Lx (Tk noTk)

def cntT (x : T1) : Nat := (Fo.node x.1 x.2 .no).count
def cntL (l : List T1) : Nat := (forest l).count
theorem cnt_mk (kind : Nat) (p : Nat × Nat) (name : ByteArray) (n : Int) (l : List T1) : cntT (mk kind p name n l) = 1 + cntL l := by simp [cntT, cntL, mk, Fo.count]
theorem cntL_nil : cntL [] = 0 := rfl
theorem cntL_cons (x : T1) (l : List T1) : cntL (x :: l) = cntT x + cntL l := by simp [cntT, cntL, forest, Fo.count]
theorem cntL_snoc (y : T1) : ∀ l : List T1, cntL (l ++ [y]) = cntL l + cntT y
  | [] => by simp [cntL_cons, cntL_nil]
  | x :: l => by rw [List.cons_append, cntL_cons, cntL_cons, cntL_snoc y l]; omega
def Grow {α : Type} (c : α → Nat) (k : Nat) (p : Par α) : Prop := ∀ L i a j, p L i = .ok (a, j) → c a + i ≤ k + j
section
variable {α β : Type} {c : α → Nat} {c' : β → Nat} {k k' : Nat}
theorem Grow.more {p : Par α} (h : Grow c k p) (hk : k ≤ k') : Grow c k' p := fun L i a j e => by have := h L i a j e; omega
theorem grow_ret {a : α} (h : c a ≤ k) : Grow c k (retP a) := fun L i b j e => by cases e; omega
theorem grow_fail : Grow c k (failP (α := α)) := fun L i b j e => by cases e
theorem grow_bind {p : Par α} {q : α → Par β} {m : Nat} (hp : Grow c k p) (hq : ∀ a, Grow c' (c a + m) (q a)) (hk : k + m ≤ k') : Grow c' k' (bindP p q) := by
  intro L i b j e
  unfold bindP at e
  cases e1 : p L i with
  | error x => rw [e1] at e; cases e
  | ok r =>
    obtain ⟨a, j1⟩ := r
    rw [e1] at e
    have h1 := hp L i a j1 e1
    have h2 := hq a L j1 b j e
    omega
theorem grow_tok {t : PT → Bool} {A : PT → Par α} {B : Par α} (hA : ∀ x, Grow c (k + 1) (A x)) (hB : Grow c k B) : Grow c k (tokP t A B) := by
  intro L i a j e
  unfold tokP at e
  split at e
  · have := hA _ L (i + 1) a j e; omega
  · exact hB L i a j e
theorem grow_pos {q : PT → Par α} (h : ∀ x, Grow c k (q x)) : Grow c k (posP q) := fun L i a j e => h _ L i a j e
end
theorem grow_name : Grow (fun _ => 1) 0 nameP := by
  rw [nameP_eq]
  exact grow_tok (fun x => grow_ret (Nat.le_refl _)) grow_fail
theorem grow_needF {α : Type} {c : α → Nat} {k : Nat} (s : ByteArray) {p : Par α} (h : Grow c k p) : Grow c k (needF s p) := grow_tok (fun _ => h.more (Nat.le_succ _)) grow_fail
theorem cnt_1 (kind : Nat) (p : Nat × Nat) (name : ByteArray) (n : Int) (x : T1) : cntT (mk kind p name n [x]) = 1 + cntT x := by rw [cnt_mk, cntL_cons, cntL_nil]; rfl
theorem cnt_2 (kind : Nat) (p : Nat × Nat) (name : ByteArray) (n : Int) (x y : T1) : cntT (mk kind p name n [x, y]) = 1 + cntT x + cntT y := by rw [cnt_mk, cntL_cons, cntL_cons, cntL_nil]; omega
theorem grow_dotsF : ∀ (f : Nat) (x : T1), Grow cntT (cntT x) (dotsF f x)
  | 0, x => grow_ret (Nat.le_refl _)
  | f + 1, x => grow_tok (fun t => grow_bind (m := cntT x) grow_name (fun a => (grow_dotsF f _).more (by rw [cnt_1]; exact Nat.le_refl _)) (by omega)) (grow_ret (Nat.le_refl _))
theorem grow_qualF (g : Nat) : Grow cntT 0 (qualF g) := grow_bind (m := 0) grow_name (fun a => (grow_dotsF g _).more (by rw [cnt_mk, cntL_nil]; exact Nat.le_refl _)) (by omega)
section
variable {e : Par T1} (ge : Grow cntT 0 e)
include ge
theorem grow_commasF : ∀ (f : Nat) (x : T1), Grow cntT (cntT x) (commasF e f x)
  | 0, x => grow_ret (Nat.le_refl _)
  | f + 1, x => grow_tok (fun t => grow_bind (m := 1 + cntT x) ge (fun a => (grow_commasF f _).more (by rw [cnt_2]; omega)) (by omega)) (grow_ret (Nat.le_refl _))
theorem grow_desF (g : Nat) : ∀ (f : Nat) (x : T1), Grow cntT (cntT x) (desF e g f x)
  | 0, x => grow_ret (Nat.le_refl _)
  | f + 1, x => grow_tok (fun t => grow_bind (m := cntT x) grow_name (fun a => (grow_desF g f _).more (by rw [cnt_1]; exact Nat.le_refl _)) (by omega))
      (grow_tok (fun t => (grow_desF g f _).more (by rw [cnt_1]; omega))
      (grow_tok (fun t => grow_bind (m := 1 + cntT x) ge (fun a => grow_bind (m := 0) (grow_commasF ge g _) (fun z => grow_needF _ (grow_desF g f z)) (by rw [cnt_2]; omega)) (by omega)) (grow_ret (Nat.le_refl _))))
theorem grow_designF (g : Nat) : Grow cntT 0 (designF e g) := grow_bind (m := 0) (grow_qualF g) (fun x => (grow_desF ge g g x).more (by omega)) (by omega)
theorem grow_elemF : Grow cntT 0 (elemF e) := grow_pos fun t => grow_bind (m := 0) ge (fun x => grow_tok (fun _ => grow_bind (m := 1 + cntT x) ge (fun y => grow_ret (by rw [cnt_2]; omega)) (by omega)) (grow_ret (by omega))) (by omega)
theorem grow_manyRF : ∀ (f : Nat) (l : List T1), Grow cntL (cntL l) (manyRF e f l)
  | 0, x => grow_ret (Nat.le_refl _)
  | f + 1, l => grow_tok (fun t => grow_bind (m := cntL l) ge (fun a => (grow_manyRF f _).more (by rw [cntL_snoc]; omega)) (by omega)) (grow_ret (Nat.le_refl _))
theorem grow_manyF (g : Nat) : Grow cntL 0 (manyF e g) := grow_bind (m := 0) ge (fun a => (grow_manyRF ge g [a]).more (by rw [cntL_cons, cntL_nil]; omega)) (by omega)
theorem grow_betweenF (g : Nat) (close : ByteArray) : Grow cntL 0 (betweenF e g close) :=
  grow_tok (fun _ => grow_ret (by rw [cntL_nil]; omega)) (grow_bind (m := 0) (grow_manyF ge g) (fun l => grow_needF _ (grow_ret (by omega))) (by omega))
end
theorem grow_bins {su : Par T1} (gs : Grow cntT 0 su) (k : Nat) : ∀ (f : Nat) (x : T1), Grow cntT (cntT x) (binsF su k f x)
  | 0, x => grow_ret (Nat.le_refl _)
  | f + 1, x => grow_tok (fun t => grow_bind (m := 1 + cntT x) gs (fun a => by
      split
      · exact grow_ret (by rw [cnt_2]; omega)
      · exact (grow_bins gs k f _).more (by rw [cnt_2]; omega)) (by omega)) (grow_ret (Nat.le_refl _))
theorem grow_lev {fac : Par T1} (gf : Grow cntT 0 fac) (g : Nat) : ∀ d, Grow cntT 0 (levF fac g d)
  | 0 => gf
  | d + 1 => grow_tok (fun t => grow_bind (m := 1) (grow_lev gf g d) (fun x => (grow_bins (grow_lev gf g d) _ g _).more (by rw [cnt_1]; omega)) (by omega))
      (grow_bind (m := 0) (grow_lev gf g d) (fun x => (grow_bins (grow_lev gf g d) _ g _).more (by omega)) (by omega))
theorem cnt_zero : cntT zeroT = 1 := rfl
theorem grow_fact (g : Nat) : ∀ f, Grow cntT 0 (factF g f)
  | 0 => grow_fail
  | f + 1 => by
    have h := grow_fact g f
    have e := grow_lev h g 3
    have em := grow_elemF e
    refine grow_tok (fun t => grow_ret (by rw [cnt_mk, cntL_nil]; omega)) (grow_tok (fun _ => grow_bind (m := 0) e (fun x => grow_needF _ (grow_ret (by omega))) (by omega))
      (grow_tok (fun t => grow_bind (m := 1) h (fun x => grow_ret (by rw [cnt_1]; omega)) (by omega))
      (grow_tok (fun t => ?_) (grow_pos fun t0 => grow_bind (m := 0) (grow_designF e g) (fun x => ?_) (by omega)))))
    · intro L i a j hh
      unfold bindP at hh
      cases e1 : betweenF (elemF (levF (factF g f) g 3)) g sRuc L i with
      | error k => rw [e1] at hh; cases hh
      | ok r =>
        obtain ⟨l, j1⟩ := r
        rw [e1] at hh
        cases hh
        have h1 := grow_betweenF em g sRuc L i l j e1
        rw [cnt_mk, cntL_cons, cnt_zero]
        have h2 : i + 1 ≤ j := by
          by_cases hT : tT sRuc (tk L i) = true
          · unfold betweenF tokP at e1
            rw [if_pos hT] at e1
            cases e1
            omega
          · exact strict_betweenF (good_elemF (good_levF g (fact_gs g f).1 3) (strict_levF g (fact_gs g f).1 (fact_gs g f).2 3)) (strict_elemF (good_levF g (fact_gs g f).1 3) (strict_levF g (fact_gs g f).1 (fact_gs g f).2 3)) g sRuc L i l j e1
        have h3 : cntL l + i + 1 ≤ j := by
          by_cases hT : tT sRuc (tk L i) = true
          · unfold betweenF tokP at e1
            rw [if_pos hT] at e1
            cases e1
            rw [cntL_nil]
            omega
          · unfold betweenF tokP at e1
            rw [if_neg hT] at e1
            unfold bindP at e1
            cases e2 : manyF (elemF (levF (factF g f) g 3)) g L i with
            | error k => rw [e2] at e1; cases e1
            | ok r =>
              obtain ⟨l2, j2⟩ := r
              rw [e2] at e1
              have h4 := grow_manyF em g L i l2 j2 e2
              dsimp only at e1
              unfold needF tokP at e1
              split at e1
              · cases e1; omega
              · cases e1
        omega
    · exact grow_tok (fun _ => grow_bind (m := 1 + cntT x) (grow_betweenF em g _) (fun l => grow_ret (by rw [cnt_mk, cntL_cons]; omega)) (by omega))
        (grow_tok (fun tj => grow_bind (m := 1 + cntT x) (grow_betweenF e g _) (fun l => grow_ret (by rw [cnt_mk, cntL_cons]; omega)) (by omega)) (grow_ret (by omega)))
theorem expr_count {L : List PT} {i j : Nat} {x : T1} (h : exprP L i = .ok (x, j)) : cntT x + i ≤ j := by
  rw [expr_fuel (g := L.length + 1) (by omega)] at h
  have := grow_lev (grow_fact (L.length + 1) (L.length + 1)) (L.length + 1) 3 L i x j h
  omega
theorem expr_end {L : List PT} {j : Nat} {x : T1} (h : exprP L 0 = .ok (x, j)) : j ≤ L.length := by
  have h1 := expr_cut L L.length 0 (Nat.zero_le _) (Nat.le_refl _)
  rw [List.take_length, h] at h1
  rcases h1 with ⟨_, h1⟩ | ⟨h1, _⟩
  · exact h1
  · exact Nat.le_of_eq h1
end Go.Proofs.Ytecmjhohniipoaa.Ex
