/- A part of the proof: Q1, N5, N6. -/
import Derived.Test.YtkemhmfdooghkaaGreatDoorW1
import Derived.Test.YtkemhmfdooghkaaGreatDoorW17
import Derived.Test.YtkemhmfdooghkaaGreatDoorW29
set_option linter.unusedSimpArgs false
set_option linter.unusedVariables false
set_option maxRecDepth 100000
set_option maxHeartbeats 6400000
namespace Go.Proofs.YtkemhmfdooghkaaGreatDoor.Ev
open Tr (Nd Fo)
open Lx (Tk noTk)
open Ex
abbrev Pl := (Nat × Nat) × (Nat × Nat)
def EqR {α : Type} (R : α → α → Prop) : Except Nat (α × Nat) → Except Nat (α × Nat) → Prop
 | .ok (a, j), .ok (b, k) => j = k ∧ R a b
 | .error j, .error k => j = k
 | _, _ => False
def Alk (L L' : List PT) : Prop := ∀ i, (tk L' i).1 = (tk L i).1
def Eqv {α : Type} (R : α → α → Prop) (p p' : Par α) : Prop := ∀ L L', Alk L L' → ∀ i, EqR R (p L i) (p' L' i)
section
variable {α β : Type} {R : α → α → Prop} {S : β → β → Prop}
theorem e_ret {a a' : α} (h : R a a') : Eqv R (retP a) (retP a') := fun _ _ _ _ => ⟨rfl, h⟩
theorem e_fail : Eqv R (failP (α := α)) failP := fun _ _ _ _ => rfl
theorem e_bind {p p' : Par α} {q q' : α → Par β} (hp : Eqv R p p') (hq : ∀ a a', R a a' → Eqv S (q a) (q' a')) : Eqv S (bindP p q) (bindP p' q') := by
 intro L L' h i
 have h1 := hp L L' h i
 unfold bindP
 cases e1 : p L i with
 | error k =>
   cases e2 : p' L' i with
   | error k' => rw [e1, e2] at h1; exact h1
   | ok r => rw [e1, e2] at h1; exact h1.elim
 | ok r =>
   obtain ⟨a, j⟩ := r
   cases e2 : p' L' i with
   | error k' => rw [e1, e2] at h1; exact h1.elim
   | ok r' =>
     obtain ⟨a', j'⟩ := r'
     rw [e1, e2] at h1
     obtain ⟨rfl, h2⟩ := h1
     exact hq a a' h2 L L' h j
theorem e_tok {t : PT → Bool} {A A' : PT → Par α} {B B' : Par α} (ht : ∀ (k : Tk) (a b : Pl), t (k, b) = t (k, a)) (hA : ∀ (k : Tk) (a b : Pl), Eqv R (A (k, a)) (A' (k, b))) (hB : Eqv R B B') : Eqv R (tokP t A B) (tokP t A' B') := by
 intro L L' h i
 have h1 := h i
 unfold tokP
 rcases h2 : tk L i with ⟨k, a⟩
 rcases h3 : tk L' i with ⟨k', b⟩
 rw [h2, h3] at h1
 obtain rfl : k' = k := h1
 rw [ht k' a b]
 split
 ·exact hA k' a b L L' h (i + 1)
 ·exact hB L L' h i
theorem e_pos {q q' : PT → Par α} (hq : ∀ (k : Tk) (a b : Pl), Eqv R (q (k, a)) (q' (k, b))) : Eqv R (posP q) (posP q') := by
 intro L L' h i
 have h1 := h i
 unfold posP
 rcases h2 : tk L i with ⟨k, a⟩
 rcases h3 : tk L' i with ⟨k', b⟩
 rw [h2, h3] at h1
 obtain rfl : k' = k := h1
 exact hq k' a b L L' h i
theorem e_need {s : ByteArray} {p p' : Par α} (h : Eqv R p p') : Eqv R (needF s p) (needF s p') := e_tok (fun _ _ _ => rfl) (fun _ _ _ => h) e_fail
theorem e_if {c : Prop} [Decidable c] {p p' q q' : Par α} (h : Eqv R p p') (h' : Eqv R q q') : Eqv R (if c then p else q) (if c then p' else q') := by split <;> assumption
end
abbrev SameK (t t' : PT) : Prop := t'.1 = t.1
theorem bareL_app {m m' : List T1} (h : BareL m m') : ∀ {l l' : List T1}, BareL l l' → BareL (l ++ m) (l' ++ m')
 | [], [], _ => h
 | [], _ :: _, e => by simp [BareL, forest, Fo.same] at e
 | _ :: _, [], e => by simp [BareL, forest, Fo.same] at e
 | x :: l, x' :: l', e => by
   simp only [BareL, forest, Fo.same, Bool.and_eq_true, decide_eq_true_eq] at e
   exact bareL_cons (bare_iff.2 ⟨e.1.1.1.1, e.1.1.1.2, e.1.1.2, e.1.2⟩) (bareL_app h e.2)
theorem bareL_zero : BareL [zeroT] [zeroT] := bareL_1 (bare_refl _)
theorem e_name : Eqv SameK nameP nameP := by
 rw [nameP_eq]
 exact e_tok (fun _ _ _ => rfl) (fun k a b => e_ret rfl) e_fail
theorem e_nameB {β : Type} {S : β → β → Prop} {q q' : PT → Par β} (hq : ∀ (k : Tk) (a b : Pl), Eqv S (q (k, a)) (q' (k, b))) : Eqv S (bindP nameP q) (bindP nameP q') :=
 e_bind e_name fun t t' h => by
  obtain ⟨k, a⟩ := t
  obtain ⟨k', b⟩ := t'
  obtain rfl : k' = k := h
  exact hq k' a b
theorem e_dots : ∀ (f : Nat) (x x' : T1), Bare x x' → Eqv Bare (dotsF f x) (dotsF f x')
 | 0, _, _, h => e_ret h
 | f + 1, x, x', h => e_tok (fun _ _ _ => rfl) (fun k a b => e_nameB fun k2 a2 b2 => e_dots f _ _ (bare_mk _ _ _ _ _ (bareL_1 h))) (e_ret h)
theorem e_qual (g : Nat) : Eqv Bare (qualF g) (qualF g) := e_nameB fun k a b => e_dots g _ _ (bare_mk _ _ _ _ _ bareL_nil)
section
variable {e : Par T1} (se : Eqv Bare e e)
include se
theorem e_commas : ∀ (f : Nat) (x x' : T1), Bare x x' → Eqv Bare (commasF e f x) (commasF e f x')
 | 0, _, _, h => e_ret h
 | f + 1, x, x', h => e_tok (fun _ _ _ => rfl) (fun k a b => e_bind se fun y y' hy => e_commas f _ _ (bare_mk _ _ _ _ _ (bareL_2 h hy))) (e_ret h)
theorem e_des (g : Nat) : ∀ (f : Nat) (x x' : T1), Bare x x' → Eqv Bare (desF e g f x) (desF e g f x')
 | 0, _, _, h => e_ret h
 | f + 1, x, x', h => e_tok (fun _ _ _ => rfl) (fun k a b => e_nameB fun k2 a2 b2 => e_des g f _ _ (bare_mk _ _ _ _ _ (bareL_1 h)))
    (e_tok (fun _ _ _ => rfl) (fun k a b => e_des g f _ _ (bare_mk _ _ _ _ _ (bareL_1 h)))
    (e_tok (fun _ _ _ => rfl) (fun k a b => e_bind se fun y y' hy => e_bind (e_commas se g _ _ (bare_mk _ _ _ _ _ (bareL_2 h hy))) fun z z' hz => e_need (e_des g f _ _ hz)) (e_ret h)))
theorem e_design (g : Nat) : Eqv Bare (designF e g) (designF e g) := e_bind (e_qual g) fun x x' h => e_des se g g x x' h
theorem e_elem : Eqv Bare (elemF e) (elemF e) :=
 e_pos fun k a b => e_bind se fun x x' h => e_tok (fun _ _ _ => rfl) (fun _ _ _ => e_bind se fun y y' hy => e_ret (bare_mk _ _ _ _ _ (bareL_2 h hy))) (e_ret h)
theorem e_manyR : ∀ (f : Nat) (l l' : List T1), BareL l l' → Eqv BareL (manyRF e f l) (manyRF e f l')
 | 0, _, _, h => e_ret h
 | f + 1, l, l', h => e_tok (fun _ _ _ => rfl) (fun _ _ _ => e_bind se fun y y' hy => e_manyR f _ _ (bareL_snoc hy h)) (e_ret h)
theorem e_many (g : Nat) : Eqv BareL (manyF e g) (manyF e g) := e_bind se fun x x' h => e_manyR se g _ _ (bareL_1 h)
theorem e_between (g : Nat) (close : ByteArray) : Eqv BareL (betweenF e g close) (betweenF e g close) :=
 e_tok (fun _ _ _ => rfl) (fun _ _ _ => e_ret bareL_nil) (e_bind (e_many se g) fun l l' h => e_need (e_ret h))
end
section
variable {sub : Par T1} (k : Nat) (hs : Eqv Bare sub sub)
include hs
theorem e_bins : ∀ (f : Nat) (x x' : T1), Bare x x' → Eqv Bare (binsF sub k f x) (binsF sub k f x')
 | 0, _, _, h => e_ret h
 | f + 1, x, x', h => e_tok (fun _ _ _ => rfl) (fun t a b => e_bind hs fun y y' hy => e_if (e_ret (bare_mk _ _ _ _ _ (bareL_2 h hy))) (e_bins f _ _ (bare_mk _ _ _ _ _ (bareL_2 h hy)))) (e_ret h)
end
theorem e_lev {fac : Par T1} (hf : Eqv Bare fac fac) (g : Nat) : ∀ d, Eqv Bare (levF fac g d) (levF fac g d)
 | 0 => hf
 | d + 1 => e_tok (fun _ _ _ => rfl) (fun t a b => e_bind (e_lev hf g d) fun x x' h => e_bins _ (e_lev hf g d) g _ _ (bare_mk _ _ _ _ _ (bareL_1 h))) (e_bind (e_lev hf g d) fun x x' h => e_bins _ (e_lev hf g d) g _ _ h)
theorem e_tailF {e : Par T1} (se : Eqv Bare e e) (g : Nat) (k : Tk) (a b : Pl) (x x' : T1) (h : Bare x x') : Eqv Bare (Ex.tailF e g (k, a) x) (Ex.tailF e g (k, b) x') := by
 unfold Ex.tailF
 rw [plainT_bare h]
 exact e_tok (fun _ _ _ => rfl) (fun _ _ _ => e_bind (e_between (e_elem se) g _) fun l l' hl => e_ret (bare_mk _ _ _ _ _ (bareL_cons h hl)))
  (e_tok (fun _ _ _ => rfl) (fun _ _ _ => e_bind (e_between se g _) fun l l' hl => e_ret (bare_mk _ _ _ _ _ (bareL_cons h hl))) (e_ret h))
theorem e_fact (g : Nat) : ∀ f, Eqv Bare (factF g f) (factF g f)
 | 0 => e_fail
 | f + 1 => e_tok (fun _ _ _ => rfl) (fun k a b => e_ret (bare_mk _ _ _ _ _ bareL_nil))
   (e_tok (fun _ _ _ => rfl) (fun _ _ _ => e_bind (e_lev (e_fact g f) g 3) fun x x' h => e_need (e_ret h))
   (e_tok (fun _ _ _ => rfl) (fun _ _ _ => e_bind (e_fact g f) fun x x' h => e_ret (bare_mk _ _ _ _ _ (bareL_1 h)))
   (e_tok (fun _ _ _ => rfl) (fun _ _ _ => e_bind (e_between (e_elem (e_lev (e_fact g f) g 3)) g _) fun l l' h => e_ret (bare_mk _ _ _ _ _ (bareL_cons (bare_refl _) h)))
   (e_pos fun k a b => e_bind (e_design (e_lev (e_fact g f) g 3) g) fun x x' h => e_tailF (e_lev (e_fact g f) g 3) g k a b x x' h))))
theorem e_expr (g : Nat) : Eqv Bare (exprF g) (exprF g) := e_lev (e_fact g g) g 3
theorem e_labels (g : Nat) : Eqv Bare (labelsF g) (labelsF g) := e_pos fun k a b => e_bind (e_many (e_elem (e_expr g)) g) fun l l' h => e_ret (bare_mk _ _ _ _ _ h)
open St
section
variable {g : Nat} {bd : Par T1} (hb : Eqv Bare bd bd)
theorem e_endS {kind : Nat} {p p' : Nat × Nat} {nm : ByteArray} {l l' : List T1} (h : BareL l l') : Eqv Bare (endS kind p nm l) (endS kind p' nm l') := e_need (e_ret (bare_mk _ _ _ _ _ h))
include hb
theorem e_ifs : ∀ (f : Nat) (l l' : List T1), BareL l l' → Eqv BareL (ifsF g bd f l) (ifsF g bd f l')
 | 0, _, _, _ => e_fail
 | f + 1, l, l', h => e_bind (e_expr g) fun c c' hc => e_need (e_bind hb fun b b' hbb => e_tok (fun _ _ _ => rfl) (fun _ _ _ => e_ifs f _ _ (bareL_app (bareL_2 hc hbb) h)) (e_ret (bareL_app (bareL_2 hc hbb) h)))
theorem e_elseS {kind : Nat} {p p' : Nat × Nat} {l l' : List T1} (h : BareL l l') : Eqv Bare (elseS bd kind p l) (elseS bd kind p' l') :=
 e_tok (fun _ _ _ => rfl) (fun _ _ _ => e_bind hb fun b b' hbb => e_endS (bareL_snoc hbb h)) (e_endS h)
theorem e_armsS : ∀ (f : Nat) (l l' : List T1), BareL l l' → Eqv BareL (armsF g bd f l) (armsF g bd f l')
 | 0, _, _, _ => e_fail
 | f + 1, l, l', h => e_pos fun k a b => e_if (e_tok (fun _ _ _ => rfl) (fun _ _ _ => e_armsS f _ _ h) (e_ret h))
   (e_bind (e_labels g) fun x x' hx => e_need (e_bind hb fun y y' hy => e_tok (fun _ _ _ => rfl) (fun _ _ _ => e_armsS f _ _ (bareL_snoc (bare_mk _ _ _ _ _ (bareL_2 hx hy)) h)) (e_ret (bareL_snoc (bare_mk _ _ _ _ _ (bareL_2 hx hy)) h))))
theorem e_forE {p p' : Nat × Nat} {v : ByteArray} {x x' y y' z z' : T1} (h1 : Bare x x') (h2 : Bare y y') (h3 : Bare z z') : Eqv Bare (forE bd p v x y z) (forE bd p' v x' y' z') :=
 e_need (e_bind hb fun b b' hbb => e_endS (bareL_cons h1 (bareL_cons h2 (bareL_2 h3 hbb))))
omit hb in
theorem e_stmL : ∀ (l : List (ByteArray × (Nat × Nat → Par T1))), (∀ x ∈ l, ∀ p p', Eqv Bare (x.2 p) (x.2 p')) → Eqv BareL (stmL g l) (stmL g l)
 | [], _ => e_pos fun k a b => e_if (e_bind (e_pos fun k a b => e_bind (e_design (e_expr g) g) fun d d' hd => e_pos fun k1 a1 b1 => e_tok (fun _ _ _ => rfl) (fun _ _ _ => e_bind (e_expr g) fun y y' hy => e_ret (bare_mk _ _ _ _ _ (bareL_2 hd hy)))
     (e_tok (fun _ _ _ => rfl) (fun _ _ _ => e_bind (e_between (e_expr g) g _) fun l l' hl => e_ret (bare_mk _ _ _ _ _ (bareL_cons hd hl))) (e_ret (bare_mk _ _ _ _ _ (bareL_1 hd))))) fun x x' hx => e_ret (bareL_1 hx)) (e_ret bareL_nil)
 | (s, q) :: r, h => e_tok (fun _ _ _ => rfl) (fun k a b => e_bind (h _ (List.mem_cons_self ..) _ _) fun x x' hx => e_ret (bareL_1 hx)) (e_stmL r fun x hx => h x (List.mem_cons_of_mem _ hx))
theorem e_alts : ∀ x ∈ alts g bd, ∀ p p', Eqv Bare (x.2 p) (x.2 p') := by
 intro x hx p p'
 unfold alts at hx
 simp only [List.mem_cons, List.not_mem_nil, or_false] at hx
 rcases hx with rfl | rfl | rfl | rfl | rfl | rfl | rfl | rfl | rfl
 ·exact e_bind (e_ifs hb g _ _ bareL_nil) fun l l' h => e_elseS hb h
 ·exact e_bind (e_expr g) fun x x' hx => e_need (e_bind (e_armsS hb g _ _ (bareL_1 hx)) fun l l' h => e_tok (fun _ _ _ => rfl) (fun k a b => e_bind hb fun y y' hy => e_endS (bareL_snoc (bare_mk _ _ _ _ _ (bareL_1 hy)) h)) (e_endS h))
 ·exact e_bind (e_expr g) fun x x' hx => e_need (e_bind hb fun y y' hy => e_endS (bareL_2 hx hy))
 ·exact e_bind hb fun y y' hy => e_need (e_bind (e_expr g) fun x x' hx => e_ret (bare_mk _ _ _ _ _ (bareL_2 hy hx)))
 ·exact e_bind hb fun y y' hy => e_endS (bareL_1 hy)
 ·exact e_ret (bare_mk _ _ _ _ _ bareL_nil)
 ·show Eqv Bare (forS g bd p) (forS g bd p')
  unfold forS
  exact e_tok (fun _ _ _ => rfl) (fun k a b => e_need (e_bind (e_expr g) fun x x' hx => e_need (e_bind (e_expr g) fun y y' hy => e_tok (fun _ _ _ => rfl) (fun _ _ _ => e_bind (e_expr g) fun z z' hz => e_forE hb hx hy hz) (e_forE hb hx hy (bare_refl _))))) e_fail
 ·exact e_bind (e_design (e_expr g) g) fun x x' hx => e_need (e_bind hb fun y y' hy => e_endS (bareL_2 hx hy))
 ·show Eqv Bare (returnS g p) (returnS g p')
  unfold returnS
  exact e_pos fun k a b => e_if (e_ret (bare_mk _ _ _ _ _ bareL_nil)) (e_bind (e_expr g) fun x x' hx => e_ret (bare_mk _ _ _ _ _ (bareL_1 hx)))
theorem e_bodyR : ∀ (f : Nat) (l l' : List T1), BareL l l' → Eqv BareL (bodyR g bd f l) (bodyR g bd f l')
 | 0, _, _, _ => e_fail
 | f + 1, l, l', h => e_bind (e_stmL _ (e_alts hb)) fun m m' hm => e_tok (fun _ _ _ => rfl) (fun _ _ _ => e_bodyR f _ _ (bareL_app hm h)) (e_ret (bareL_app hm h))
end
theorem e_body (g : Nat) : ∀ f, Eqv Bare (bodyF g f) (bodyF g f)
 | 0 => e_fail
 | f + 1 => by
   rw [bodyF]
   unfold bodyG
   exact e_pos fun k a b => e_bind (e_bodyR (e_body g f) g _ _ bareL_nil) fun l l' h => e_ret (bare_mk _ _ _ _ _ h)
open De
section
variable {g : Nat}
theorem e_names : ∀ (f : Nat) (l l' : List T1), BareL l l' → Eqv BareL (namesF f l) (namesF f l')
 | 0, _, _, _ => e_fail
 | f + 1, l, l', h => e_tok (fun _ _ _ => rfl) (fun k a b => e_tok (fun _ _ _ => rfl) (fun _ _ _ => e_names f _ _ (bareL_snoc (bare_mk _ _ _ _ _ bareL_nil) h)) (e_ret (bareL_snoc (bare_mk _ _ _ _ _ bareL_nil) h))) e_fail
theorem e_ends {α : Type} {R : α → α → Prop} {n : ByteArray} {p p' : Par α} (h : Eqv R p p') : Eqv R (endsF n p) (endsF n p') := e_tok (fun _ _ _ => rfl) (fun _ _ _ => h) e_fail
theorem e_ref : Eqv Bare (refF g) (refF g) := e_pos fun k a b => e_bind (e_qual g) fun x x' h => e_ret (bare_mk _ _ _ _ _ (bareL_1 h))
theorem e_enum {p p' : Nat × Nat} : Eqv Bare (enumF g p) (enumF g p') := e_bind (e_names g _ _ bareL_nil) fun l l' h => e_need (e_ret (bare_mk _ _ _ _ _ h))
theorem e_sub {p p' : Nat × Nat} : Eqv Bare (subF g p) (subF g p') := e_bind (e_expr g) fun x x' hx => e_need (e_bind (e_expr g) fun y y' hy => e_need (e_ret (bare_mk _ _ _ _ _ (bareL_2 hx hy))))
theorem e_simple : Eqv Bare (simpleF g) (simpleF g) := e_pos fun k a b => e_tok (fun _ _ _ => rfl) (fun _ _ _ => e_enum) (e_tok (fun _ _ _ => rfl) (fun _ _ _ => e_sub) e_ref)
theorem e_formal : Eqv Bare (formalF g) (formalF g) := e_pos fun k a b => e_tok (fun _ _ _ => rfl) (fun _ _ _ => e_need (e_bind e_ref fun x x' h => e_ret (bare_mk _ _ _ _ _ (bareL_1 h)))) e_ref
theorem e_paramB {nm : Bool} {p p' : Nat × Nat} {n : Int} : Eqv Bare (paramB g nm p n) (paramB g nm p' n) :=
 e_if (e_bind (e_names g _ _ bareL_nil) fun l l' h => e_need (e_bind e_formal fun x x' hx => e_ret (bare_mk _ _ _ _ _ (bareL_snoc hx h)))) (e_bind e_formal fun x x' hx => e_ret (bare_mk _ _ _ _ _ (bareL_1 hx)))
theorem e_param {nm : Bool} : Eqv Bare (paramF g nm) (paramF g nm) := e_pos fun k a b => e_tok (fun _ _ _ => rfl) (fun _ _ _ => e_paramB) e_paramB
theorem e_pars {sep : ByteArray} {nm : Bool} : ∀ (f : Nat) (l l' : List T1), BareL l l' → Eqv BareL (parsR g sep nm f l) (parsR g sep nm f l')
 | 0, _, _, _ => e_fail
 | f + 1, l, l', h => e_bind e_param fun x x' hx => e_tok (fun _ _ _ => rfl) (fun _ _ _ => e_pars f _ _ (bareL_snoc hx h)) (e_ret (bareL_snoc hx h))
theorem e_ans {l l' : List T1} (h : BareL l l') : Eqv BareL (ansF g l) (ansF g l') := e_need (e_tok (fun _ _ _ => rfl) (fun _ _ _ => e_bind e_ref fun x x' hx => e_ret (bareL_snoc hx h)) (e_ret (bareL_snoc (bare_refl _) h)))
theorem e_params {sep : ByteArray} {nm : Bool} : Eqv BareL (paramsF g sep nm) (paramsF g sep nm) :=
 e_tok (fun _ _ _ => rfl) (fun _ _ _ => e_pos fun k a b => e_if (e_ans bareL_nil) (e_bind (e_pars g _ _ bareL_nil) fun l l' h => e_ans h)) (e_ret bareL_zero)
theorem e_heading : Eqv Bare (headingF g) (headingF g) := e_pos fun k a b => e_need (e_tok (fun _ _ _ => rfl) (fun k2 a2 b2 => e_bind e_params fun l l' h => e_ret (bare_mk _ _ _ _ _ (bareL_1 (bare_mk _ _ _ _ _ h)))) e_fail)
section
variable {ty : Par T1} (ht : Eqv Bare ty ty)
include ht
theorem e_fields {pt : Par T1} (hp : Eqv Bare pt pt) {pb : Bool} : ∀ (f : Nat) (l l' : List T1), BareL l l' → Eqv BareL (fieldsR g ty pt pb f l) (fieldsR g ty pt pb f l')
 | 0, _, _, _ => e_fail
 | f + 1, l, l', h => e_pos fun k a b => e_if (e_bind (e_names g _ _ bareL_nil) fun m m' hm => e_need (e_bind ht fun x x' hx => e_tok (fun _ _ _ => rfl) (fun _ _ _ => e_fields hp f _ _ (bareL_snoc (bare_mk _ _ _ _ _ (bareL_snoc hx hm)) h)) (e_ret (bareL_snoc (bare_mk _ _ _ _ _ (bareL_snoc hx hm)) h))))
   (e_if (e_bind hp fun x x' hx => e_tok (fun _ _ _ => rfl) (fun _ _ _ => e_ret (bareL_snoc hx h)) (e_ret (bareL_snoc hx h))) (e_tok (fun _ _ _ => rfl) (fun _ _ _ => e_fields hp f _ _ h) (e_ret h)))
theorem e_plainFs : Eqv BareL (plainFs g ty) (plainFs g ty) := e_fields ht e_fail _ _ _ bareL_nil
theorem e_arms : ∀ (f : Nat) (l l' : List T1), BareL l l' → Eqv BareL (armsR g ty f l) (armsR g ty f l')
 | 0, _, _, _ => e_fail
 | f + 1, l, l', h => e_pos fun k a b => e_if (e_tok (fun _ _ _ => rfl) (fun _ _ _ => e_arms f _ _ h) (e_ret h))
   (e_bind (e_labels g) fun x x' hx => e_need (e_bind (e_plainFs ht) fun m m' hm => e_tok (fun _ _ _ => rfl) (fun _ _ _ => e_arms f _ _ (bareL_snoc (bare_mk _ _ _ _ _ (bareL_cons hx hm)) h)) (e_ret (bareL_snoc (bare_mk _ _ _ _ _ (bareL_cons hx hm)) h))))
theorem e_part : Eqv Bare (partF g ty) (partF g ty) := e_pos fun k a b => e_need (e_tok (fun _ _ _ => rfl) (fun k2 a2 b2 => e_need (e_bind e_ref fun x x' hx => e_need (e_bind (e_arms ht _ _ _ (bareL_1 hx)) fun l l' h =>
 e_tok (fun _ _ _ => rfl) (fun k3 a3 b3 => e_bind (e_plainFs ht) fun m m' hm => e_need (e_ret (bare_mk _ _ _ _ _ (bareL_snoc (bare_mk _ _ _ _ _ hm) h)))) (e_need (e_ret (bare_mk _ _ _ _ _ h)))))) e_fail)
theorem e_array : ∀ (f : Nat) (p p' : Nat × Nat), Eqv Bare (arrayR g ty f p) (arrayR g ty f p')
 | 0, _, _ => e_fail
 | f + 1, p, p' => e_bind e_simple fun x x' hx => e_tok (fun _ _ _ => rfl) (fun k a b => e_bind (e_array f _ _) fun y y' hy => e_ret (bare_mk _ _ _ _ _ (bareL_2 hx hy))) (e_need (e_bind ht fun y y' hy => e_ret (bare_mk _ _ _ _ _ (bareL_2 hx hy))))
theorem e_typG : Eqv Bare (typG g ty) (typG g ty) := e_pos fun k a b => e_tok (fun _ _ _ => rfl) (fun _ _ _ => e_array ht _ _ _)
 (e_tok (fun _ _ _ => rfl) (fun _ _ _ => e_bind (e_fields ht (e_part ht) _ _ _ bareL_nil) fun l l' h => e_need (e_ret (bare_mk _ _ _ _ _ h)))
 (e_tok (fun _ _ _ => rfl) (fun _ _ _ => e_need (e_bind e_simple fun x x' hx => e_ret (bare_mk _ _ _ _ _ (bareL_1 hx))))
 (e_tok (fun _ _ _ => rfl) (fun _ _ _ => e_need (e_bind ht fun x x' hx => e_ret (bare_mk _ _ _ _ _ (bareL_1 hx))))
 (e_tok (fun _ _ _ => rfl) (fun _ _ _ => e_bind e_params fun l l' h => e_ret (bare_mk _ _ _ _ _ h)) e_simple))))
end
theorem e_typ : ∀ f : Nat, Eqv Bare (typF g f) (typF g f)
 | 0 => e_fail
 | f + 1 => e_typG (e_typ f)
section
variable {ty bl : Par T1}
theorem e_const : Eqv Bare (constF g) (constF g) := e_tok (fun _ _ _ => rfl) (fun k a b => e_need (e_bind (e_expr g) fun x x' hx => e_ret (bare_mk _ _ _ _ _ (bareL_1 hx)))) e_fail
theorem e_type (ht : Eqv Bare ty ty) {df : Bool} : Eqv Bare (typeF ty df) (typeF ty df) :=
 e_tok (fun _ _ _ => rfl) (fun k a b => e_pos fun k2 a2 b2 => e_if (e_ret (bare_mk _ _ _ _ _ bareL_zero)) (e_need (e_bind ht fun x x' hx => e_ret (bare_mk _ _ _ _ _ (bareL_1 hx))))) e_fail
theorem e_var (ht : Eqv Bare ty ty) : Eqv Bare (varF g ty) (varF g ty) := e_pos fun k a b => e_bind (e_names g _ _ bareL_nil) fun l l' h => e_need (e_bind ht fun x x' hx => e_ret (bare_mk _ _ _ _ _ (bareL_snoc hx h)))
theorem e_sec {q : Par T1} (hq : Eqv Bare q q) : ∀ (f : Nat) (l l' : List T1), BareL l l' → Eqv BareL (secR q f l) (secR q f l')
 | 0, _, _, _ => e_fail
 | f + 1, l, l', h => e_pos fun k a b => e_if (e_bind hq fun x x' hx => e_need (e_sec hq f _ _ (bareL_snoc hx h))) (e_ret h)
theorem fo_app_same : ∀ {f f' : Fo} {h h' : Fo}, f.same f' = true → h.same h' = true → (f.app h).same (f'.app h') = true
 | .no, .no, _, _, _, h => h
 | .no, .node .., _, _, e, _ => by simp [Fo.same] at e
 | .node .., .no, _, _, e, _ => by simp [Fo.same] at e
 | .node d k r, .node d' k' r', _, _, e, h => by
   simp only [Fo.same, Fo.app, Bool.and_eq_true] at e ⊢
   exact ⟨e.1, fo_app_same e.2 h⟩
theorem e_proc (hb : Eqv Bare bl bl) {df : Bool} : Eqv Bare (procF g bl df) (procF g bl df) :=
 e_bind e_heading fun x x' hx => by
  have hx2 := bare_iff.1 hx
  refine e_need (e_if (e_ret hx) (e_bind hb fun b b' hbb => ?_))
  rw [← hx2.2.1]
  exact e_ends (e_need (e_ret (bare_iff.2 ⟨hx2.1, hx2.2.1, hx2.2.2.1, fo_app_same hx2.2.2.2 (bareL_1 hbb)⟩)))
theorem e_imp : ∀ (f : Nat) (l l' : List T1), BareL l l' → Eqv BareL (impR g f l) (impR g f l')
 | 0, _, _, _ => e_fail
 | f + 1, l, l', h => e_tok (fun _ _ _ => rfl) (fun k a b => e_bind (e_names g _ _ bareL_nil) fun m m' hm => e_need (e_imp f _ _ (bareL_snoc (bare_mk _ _ _ _ _ hm) h))) (e_ret h)
theorem e_expB {p p' : Nat × Nat} {q : Int} {l l' : List T1} (h : BareL l l') : Eqv BareL (expB g p q l) (expB g p' q l') := e_bind (e_names g _ _ bareL_nil) fun m m' hm => e_need (e_ret (bareL_snoc (bare_mk _ _ _ _ _ hm) h))
theorem e_exp {l l' : List T1} (h : BareL l l') : Eqv BareL (expF g l) (expF g l') := e_tok (fun _ _ _ => rfl) (fun k a b => e_tok (fun _ _ _ => rfl) (fun _ _ _ => e_expB h) (e_expB h)) (e_ret h)
theorem e_mod (hb : Eqv Bare bl bl) : Eqv Bare (modF g bl) (modF g bl) :=
 e_pos fun k a b => e_need (e_tok (fun _ _ _ => rfl) (fun k2 a2 b2 => e_need (e_bind (e_imp _ _ _ bareL_nil) fun l l' h => e_bind (e_exp h) fun m m' hm => e_bind hb fun x x' hx => e_ends (e_need (e_ret (bare_mk _ _ _ _ _ (bareL_snoc hx hm)))))) e_fail)
theorem e_decls (ht : Eqv Bare ty ty) (hb : Eqv Bare bl bl) {df : Bool} : ∀ (f : Nat) (l l' : List T1), BareL l l' → Eqv BareL (declsR g ty bl df f l) (declsR g ty bl df f l')
 | 0, _, _, _ => e_fail
 | f + 1, l, l', h => e_tok (fun _ _ _ => rfl) (fun _ _ _ => e_bind (e_sec e_const _ _ _ h) fun m m' hm => e_decls ht hb f _ _ hm) (e_tok (fun _ _ _ => rfl) (fun _ _ _ => e_bind (e_sec (e_type ht) _ _ _ h) fun m m' hm => e_decls ht hb f _ _ hm)
   (e_tok (fun _ _ _ => rfl) (fun _ _ _ => e_bind (e_sec (e_var ht) _ _ _ h) fun m m' hm => e_decls ht hb f _ _ hm)
   (e_pos fun k a b => e_if (e_bind (e_proc hb) fun x x' hx => e_decls ht hb f _ _ (bareL_snoc hx h)) (e_if (e_bind (e_mod hb) fun x x' hx => e_decls ht hb f _ _ (bareL_snoc hx h)) (e_ret h)))))
theorem e_blockG (ht : Eqv Bare ty ty) (hb : Eqv Bare bl bl) : Eqv Bare (blockG g ty bl) (blockG g ty bl) :=
 e_pos fun k a b => e_bind (e_decls ht hb _ _ _ bareL_nil) fun l l' h => e_tok (fun _ _ _ => rfl) (fun _ _ _ => e_bind (e_body g (g + 1)) fun x x' hx => e_need (e_ret (bare_mk _ _ _ _ _ (bareL_snoc hx h))))
  (e_pos fun k a b => e_need (e_ret (bare_mk _ _ _ _ _ (bareL_snoc (bare_mk _ _ _ _ _ bareL_nil) h))))
end
theorem e_block : ∀ f : Nat, Eqv Bare (blockF g f) (blockF g f)
 | 0 => e_fail
 | f + 1 => e_blockG (e_typ _) (e_block f)
theorem e_def : Eqv BareL (defF g) (defF g) := e_decls (e_typ _) e_fail _ _ _ bareL_nil
end
open Un
theorem e_imports {g : Nat} : ∀ (f : Nat) (l l' : List T1), BareL l l' → Eqv BareL (importsR g f l) (importsR g f l')
 | 0, _, _, _ => e_fail
 | f + 1, l, l', h => e_tok (fun _ _ _ => rfl) (fun k a b => e_tok (fun _ _ _ => rfl) (fun k2 a2 b2 => e_need (e_bind (e_names g _ _ bareL_nil) fun m m' hm => e_need (e_imports f _ _ (bareL_snoc (bare_mk _ _ _ _ _ hm) h)))) e_fail)
   (e_tok (fun _ _ _ => rfl) (fun k a b => e_bind (e_names g _ _ bareL_nil) fun m m' hm => e_need (e_imports f _ _ (bareL_snoc (bare_mk _ _ _ _ _ hm) h))) (e_ret h))
theorem e_tailU {g : Nat} {bl : Par T1} {df : Par (List T1)} (hb : Eqv Bare bl bl) (hd : Eqv BareL df df) {k : Nat} {p p' : Nat × Nat} : Eqv Bare (Un.tailF g bl df k p) (Un.tailF g bl df k p') :=
 e_need (e_tok (fun _ _ _ => rfl) (fun n a b => e_need (e_bind (e_imports _ _ _ bareL_nil) fun l l' h => e_bind (e_if (e_bind hd fun m m' hm => e_need (e_ret (bareL_app hm h))) (e_bind hb fun x x' hx => e_ret (bareL_snoc hx h))) fun l2 l2' h2 => e_tok (fun _ _ _ => rfl) (fun _ _ _ => e_need (e_ret (bare_mk _ _ _ _ _ h2))) e_fail)) e_fail)
theorem e_unit {g : Nat} {bl : Par T1} {df : Par (List T1)} (hb : Eqv Bare bl bl) (hd : Eqv BareL df df) : Eqv Bare (unitG g bl df) (unitG g bl df) :=
 e_pos fun k a b => e_tok (fun _ _ _ => rfl) (fun _ _ _ => e_tailU hb hd) (e_tok (fun _ _ _ => rfl) (fun _ _ _ => e_tailU hb hd) (e_tailU hb hd))
theorem e_parse (g : Nat) : Eqv Bare (parseU g) (parseU g) := e_bind (e_unit (e_block g) e_def) fun x x' hx => e_pos fun k a b => e_if (e_ret hx) e_fail
end Go.Proofs.YtkemhmfdooghkaaGreatDoor.Ev
namespace Go.Proofs.YtkemhmfdooghkaaGreatDoor.Un
open Go.RowKit
open Tr (Nd Fo RepS RepN Rep cellsN)
open Lx (Tk noTk Blk run_store_complexL TokAt)
open Fl
open Ex
open St (TkS g2_max Good2 isNm KG KN new_kg new_0 kid_facts one_ptr sSem sCol sEnd isWd6 ret_ bind_err need_n)
open De (LG new_leaf new_lg namesF sImport sModule run_field0)
attribute [local go_sem] run_store_complexL run_field0 run_field1 run_field3
section
variable {α β : Type} {p : Par α} {q : α → Par β} {s : ByteArray} {L : List PT} {i j : Nat} {x : β}
end
end Go.Proofs.YtkemhmfdooghkaaGreatDoor.Un
