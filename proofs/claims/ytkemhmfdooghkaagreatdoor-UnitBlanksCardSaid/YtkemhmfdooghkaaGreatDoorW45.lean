/- A part of the proof: Q2, B2. -/
import Derived.Test.YtkemhmfdooghkaaGreatDoorW1
import Derived.Test.YtkemhmfdooghkaaGreatDoorW17
import Derived.Test.YtkemhmfdooghkaaGreatDoorW16
import Derived.Test.YtkemhmfdooghkaaGreatDoorW12
import Derived.Test.YtkemhmfdooghkaaGreatDoorW44
set_option linter.unusedSimpArgs false
set_option linter.unusedVariables false
set_option maxRecDepth 100000
set_option maxHeartbeats 6400000
namespace Go.Proofs.YtkemhmfdooghkaaGreatDoor.Gw
open Go.RowKit
open Tr (Nd Fo)
open Lx (Tk noTk)
open Ex St
def Grw {α : Type} (c : α → Nat) (k : Nat) (p : Par α) : Prop := ∀ L i a j, p L i = .ok (a, j) → c a + 3 * i ≤ k + 3 * j
section
variable {α β : Type} {c : α → Nat} {c' : β → Nat} {k k' : Nat}
theorem Grw.more {p : Par α} (h : Grw c k p) (hk : k ≤ k') : Grw c k' p := fun L i a j e => by have := h L i a j e; omega
theorem grw_of {p : Par α} (hm : ∀ L i, i ≤ posE (p L i)) (h : Grow c k p) : Grw c k p := fun L i a j e => by
 have h1 := h L i a j e
 have h2 := hm L i
 rw [e] at h2
 have h3 : i ≤ j := h2
 omega
theorem grw_ret {a : α} (h : c a ≤ k) : Grw c k (retP a) := fun L i b j e => by cases e; omega
theorem grw_fail : Grw c k (failP (α := α)) := fun L i b j e => by cases e
theorem grw_bind {p : Par α} {q : α → Par β} {m : Nat} (hp : Grw c k p) (hq : ∀ a, Grw c' (c a + m) (q a)) (hk : k + m ≤ k') : Grw c' k' (bindP p q) := by
 intro L i b j e
 unfold bindP at e
 cases e1 : p L i with
 | error x => rw [e1] at e; cases e
 | ok r =>
   obtain ⟨a, j1⟩ := r
   rw [e1] at e
   have h1 := hp L i a j1 e1
   have h2 := hq a L j1 b j e
   omega
theorem grw_tok {t : PT → Bool} {A : PT → Par α} {B : Par α} (hA : ∀ x, Grw c (k + 3) (A x)) (hB : Grw c k B) : Grw c k (tokP t A B) := by
 intro L i a j e
 unfold tokP at e
 split at e
 ·have := hA _ L (i + 1) a j e; omega
 ·exact hB L i a j e
theorem grw_pos {q : PT → Par α} (h : ∀ x, Grw c k (q x)) : Grw c k (posP q) := fun L i a j e => h _ L i a j e
theorem grw_need {s : ByteArray} {p : Par α} (h : Grw c (k + 3) p) : Grw c k (needF s p) := grw_tok (fun _ => h) grw_fail
end
theorem grow_exprF (g : Nat) : Grow cntT 0 (exprF g) := grow_lev (grow_fact g g) g 3
theorem grow_labels (g : Nat) : Grow cntT 1 (labelsF g) :=
 grow_pos fun t => grow_bind (m := 1) (grow_manyF (grow_elemF (grow_lev (grow_fact g g) g 3)) g) (fun l => grow_ret (by rw [cnt_mk]; omega)) (by omega)
theorem cntL_app (b : List T1) : ∀ a : List T1, cntL (a ++ b) = cntL a + cntL b
 | [] => by rw [List.nil_append, cntL_nil, Nat.zero_add]
 | x :: a => by rw [List.cons_append, cntL_cons, cntL_cons, cntL_app b a]; omega
theorem cntL_1 (x : T1) : cntL [x] = cntT x := by rw [cntL_cons, cntL_nil]; rfl
theorem cntL_2 (x y : T1) : cntL [x, y] = cntT x + cntT y := by rw [cntL_cons, cntL_1]
section
variable {g : Nat} {bd : Par T1}
theorem grw_expr : Grw cntT 0 (exprF g) := grw_of (good_exprF g).mono (grow_exprF g)
theorem grw_design : Grw cntT 0 (designF (exprF g) g) := grw_of (good_designF (good_exprF g) g).mono (grow_designF (grow_exprF g) g)
theorem grw_labels : Grw cntT 1 (labelsF g) := grw_of (good_labelsF g).mono (grow_labels g)
theorem grw_between {s : ByteArray} : Grw cntL 0 (betweenF (exprF g) g s) := grw_of (good_betweenF (good_exprF g) g s).mono (grow_betweenF (grow_exprF g) g s)
theorem grw_endS {k : Nat} {p : Nat × Nat} {n : ByteArray} {l : List T1} : Grw cntT (cntL l) (endS k p n l) := grw_need (grw_ret (by rw [cnt_mk]; omega))
theorem grw_returnS {p : Nat × Nat} : Grw cntT 3 (returnS g p) := grw_pos fun t => by
 split
 ·exact grw_ret (by rw [cnt_mk, cntL_nil]; omega)
 ·exact grw_bind (m := 3) grw_expr (fun x => grw_ret (by rw [cnt_mk, cntL_1]; omega)) (by omega)
theorem grw_plainS : Grw cntT 1 (plainS g) := grw_pos fun t0 => grw_bind (m := 1) grw_design (fun d => grw_pos fun t1 => grw_tok (fun _ => grw_bind (m := cntT d + 1) grw_expr (fun y => grw_ret (by rw [cnt_mk, cntL_2]; omega)) (by omega))
 (grw_tok (fun _ => grw_bind (m := cntT d + 1) grw_between (fun l => grw_ret (by rw [cnt_mk, cntL_cons]; omega)) (by omega)) (grw_ret (by rw [cnt_mk, cntL_1]; omega)))) (by omega)
theorem grw_exitS {p : Nat × Nat} : Grw cntT 3 (exitS p) := grw_ret (by rw [cnt_mk, cntL_nil]; omega)
variable (hb : Grw cntT 2 bd)
include hb
theorem grw_ifsF : ∀ (f : Nat) (acc : List T1), Grw cntL (cntL acc) (ifsF g bd f acc)
 | 0, _ => grw_fail
 | f + 1, acc => grw_bind (m := cntL acc) grw_expr (fun x => grw_need (grw_bind (m := cntT x + cntL acc + 1) hb (fun b => grw_tok (fun _ => (grw_ifsF f _).more (by rw [cntL_app, cntL_2]; omega)) (grw_ret (by rw [cntL_app, cntL_2]; omega))) (by omega))) (by omega)
theorem grw_elseS {k : Nat} {p : Nat × Nat} {l : List T1} : Grw cntT (cntL l) (elseS bd k p l) := grw_tok (fun _ => grw_bind (m := cntL l + 1) hb (fun b => grw_endS.more (by rw [cntL_app, cntL_1]; omega)) (by omega)) grw_endS
theorem grw_ifS {p : Nat × Nat} : Grw cntT 3 (ifS g bd p) := grw_bind (m := 0) (grw_ifsF hb _ _) (fun l => grw_elseS hb) (by rw [cntL_nil]; omega)
theorem grw_armsF : ∀ (f : Nat) (acc : List T1), Grw cntL (cntL acc + 1) (armsF g bd f acc)
 | 0, _ => grw_fail
 | f + 1, acc => grw_pos fun t0 => by
   split
   ·exact grw_tok (fun _ => (grw_armsF f acc).more (by omega)) (grw_ret (by omega))
   ·exact grw_bind (m := cntL acc) grw_labels (fun x => grw_need (grw_bind (m := cntT x + cntL acc + 1) hb (fun b => grw_tok (fun _ => (grw_armsF f _).more (by rw [cntL_app, cntL_1, cnt_mk, cntL_2]; omega)) (grw_ret (by rw [cntL_app, cntL_1, cnt_mk, cntL_2]; omega))) (by omega))) (by omega)
theorem grw_caseS {p : Nat × Nat} : Grw cntT 3 (caseS g bd p) := grw_bind (m := 3) grw_expr (fun x => grw_need (grw_bind (m := 0) ((grw_armsF hb _ _).more (k' := cntT x + 1) (by rw [cntL_1]; omega)) (fun l => grw_tok (fun t => grw_bind (m := cntL l + 1) hb (fun b => grw_endS.more (by rw [cntL_app, cntL_1, cnt_mk, cntL_1]; omega)) (by omega)) grw_endS) (by omega))) (by omega)
theorem grw_whileS {p : Nat × Nat} : Grw cntT 3 (whileS g bd p) := grw_bind (m := 3) grw_expr (fun x => grw_need (grw_bind (m := cntT x + 1) hb (fun b => grw_endS.more (by rw [cntL_2]; omega)) (by omega))) (by omega)
theorem grw_withS {p : Nat × Nat} : Grw cntT 3 (withS g bd p) := grw_bind (m := 3) grw_design (fun x => grw_need (grw_bind (m := cntT x + 1) hb (fun b => grw_endS.more (by rw [cntL_2]; omega)) (by omega))) (by omega)
theorem grw_repS {p : Nat × Nat} : Grw cntT 3 (repS g bd p) := grw_bind (m := 1) hb (fun b => grw_need (grw_bind (m := cntT b + 1) grw_expr (fun x => grw_ret (by rw [cnt_mk, cntL_2]; omega)) (by omega))) (by omega)
theorem grw_loopS {p : Nat × Nat} : Grw cntT 3 (loopS bd p) := grw_bind (m := 1) hb (fun b => grw_endS.more (by rw [cntL_1]; omega)) (by omega)
theorem grw_forE {p : Nat × Nat} {v : ByteArray} {a z y : T1} : Grw cntT (cntT a + cntT z + cntT y) (forE bd p v a z y) := grw_need (grw_bind (m := cntT a + cntT z + cntT y) hb (fun b => grw_endS.more (by rw [cntL_cons, cntL_cons, cntL_2]; omega)) (by omega))
theorem grw_forS {p : Nat × Nat} : Grw cntT 3 (forS g bd p) := grw_tok (fun v => grw_need (grw_bind (m := 6) grw_expr (fun a => grw_need (grw_bind (m := cntT a + 6) grw_expr (fun z => grw_tok (fun _ => grw_bind (m := cntT a + cntT z) grw_expr (fun y => (grw_forE hb).more (by omega)) (by omega)) ((grw_forE hb).more (by have := cnt_zero; omega))) (by omega))) (by omega))) grw_fail
theorem grw_alts : ∀ x ∈ alts g bd, ∀ p, Grw cntT 3 (x.2 p) := by
 intro x hx p
 unfold alts at hx
 simp only [List.mem_cons, List.not_mem_nil, or_false] at hx
 rcases hx with rfl | rfl | rfl | rfl | rfl | rfl | rfl | rfl | rfl
 ·exact grw_ifS hb
 ·exact grw_caseS hb
 ·exact grw_whileS hb
 ·exact grw_repS hb
 ·exact grw_loopS hb
 ·exact grw_exitS
 ·exact grw_forS hb
 ·exact grw_withS hb
 ·exact grw_returnS
omit hb in
theorem grw_stmL : ∀ (l : List (ByteArray × (Nat × Nat → Par T1))), (∀ x ∈ l, ∀ p, Grw cntT 3 (x.2 p)) → Grw cntL 1 (stmL g l)
 | [], _ => grw_pos fun t => by
   split
   ·exact grw_bind (m := 0) grw_plainS (fun x => grw_ret (by rw [cntL_1]; omega)) (by omega)
   ·exact grw_ret (by rw [cntL_nil]; omega)
 | (s, q) :: r, h => grw_tok (fun t => grw_bind (m := 0) (h _ (List.mem_cons_self ..) _) (fun x => grw_ret (by rw [cntL_1]; omega)) (by omega)) (grw_stmL r fun x hx => h x (List.mem_cons_of_mem _ hx))
theorem grw_bodyR : ∀ (f : Nat) (acc : List T1), Grw cntL (cntL acc + 1) (bodyR g bd f acc)
 | 0, _ => grw_fail
 | f + 1, acc => grw_bind (m := cntL acc) (grw_stmL _ (grw_alts hb)) (fun s => grw_tok (fun _ => (grw_bodyR f _).more (by rw [cntL_app]; omega)) (grw_ret (by rw [cntL_app]; omega))) (by omega)
theorem grw_bodyG : Grw cntT 2 (bodyG g bd) := grw_pos fun t0 => grw_bind (m := 1) (grw_bodyR hb _ _) (fun l => grw_ret (by rw [cnt_mk]; omega)) (by rw [cntL_nil]; omega)
end
theorem grw_bodyF (g : Nat) : ∀ f, Grw cntT 2 (bodyF g f)
 | 0 => grw_fail
 | f + 1 => grw_bodyG (grw_bodyF g f)
open De Un
def G8 {α : Type} (c : α → Nat) (k : Nat) (p : Par α) : Prop := ∀ L i a j, p L i = .ok (a, j) → c a + 8 * i ≤ k + 8 * j
def Ts (s : Nat) (x : T1) : Nat := cntT x + s
theorem cnt_pos (x : T1) : 1 ≤ cntT x := by unfold cntT; simp only [Fo.count]; omega
theorem count_app : ∀ f h : Fo, (f.app h).count = f.count + h.count
 | .no, h => by simp [Fo.app, Fo.count]
 | .node d k r, h => by simp only [Fo.app, Fo.count, count_app r h]; omega
theorem cnt_addK (h b : T1) : cntT (addK h b) = cntT h + cntT b := by
 unfold cntT addK
 simp only [Fo.count, count_app, forest]
 omega
section
variable {α β : Type} {c : α → Nat} {c' : β → Nat} {k k' : Nat}
theorem G8.more {p : Par α} (h : G8 c k p) (hk : k ≤ k') : G8 c k' p := fun L i a j e => by have := h L i a j e; omega
theorem G8.nil {p : Par α} (h : G8 c (cntL []) p) : G8 c 0 p := h
theorem g8_ret {a : α} (h : c a ≤ k) : G8 c k (retP a) := fun L i b j e => by cases e; omega
theorem g8_fail : G8 c k (failP (α := α)) := fun L i b j e => by cases e
theorem g8_bind {p : Par α} {q : α → Par β} {m : Nat} (hp : G8 c k p) (hq : ∀ a, G8 c' (c a + m) (q a)) (hk : k + m ≤ k') : G8 c' k' (bindP p q) := by
 intro L i b j e
 unfold bindP at e
 cases e1 : p L i with
 | error x => rw [e1] at e; cases e
 | ok r =>
   obtain ⟨a, j1⟩ := r
   rw [e1] at e
   have h1 := hp L i a j1 e1
   have h2 := hq a L j1 b j e
   omega
theorem g8_tok {t : PT → Bool} {A : PT → Par α} {B : Par α} (hA : ∀ x, G8 c (k + 8) (A x)) (hB : G8 c k B) : G8 c k (tokP t A B) := by
 intro L i a j e
 unfold tokP at e
 split at e
 ·have := hA _ L (i + 1) a j e; omega
 ·exact hB L i a j e
theorem g8_pos {q : PT → Par α} (h : ∀ x, G8 c k (q x)) : G8 c k (posP q) := fun L i a j e => h _ L i a j e
theorem g8_need {s : ByteArray} {p : Par α} (h : G8 c (k + 8) p) : G8 c k (needF s p) := g8_tok (fun _ => h) g8_fail
theorem g8_if {d : Prop} [Decidable d] {p q : Par α} (h1 : G8 c k p) (h2 : G8 c k q) : G8 c k (if d then p else q) := by split <;> assumption
theorem g8_of {p : Par α} (hm : ∀ L i, i ≤ posE (p L i)) (h : Grw c k p) : G8 c k p := fun L i a j e => by
 have h1 := h L i a j e
 have h2 := hm L i
 rw [e] at h2
 have h3 : i ≤ j := h2
 omega
end
theorem g8_tr {p : Par T1} (h : Grow cntT 0 p) : G8 (Ts 7) 0 p := fun L i a j e => by
 have h1 := h L i a j e
 have h2 := cnt_pos a
 unfold Ts
 omega
theorem G8.s {p : Par T1} {s s' k : Nat} (h : G8 (Ts s) k p) (hs : s' ≤ s) : G8 (Ts s') k p := fun L i a j e => by
 have h1 := h L i a j e
 unfold Ts at h1 ⊢
 omega
section
variable {g : Nat}
theorem g8_lab : G8 cntT 0 (labelsF g) := g8_pos fun t => by
 intro L i a j e
 unfold bindP at e
 cases e1 : manyF (elemF (exprF g)) g L i with
 | error k => rw [e1] at e; cases e
 | ok r =>
   obtain ⟨l, j1⟩ := r
   rw [e1] at e
   have h1 := grow_manyF (grow_elemF (grow_exprF g)) g L i l j1 e1
   have h2 := strict_manyF (good_elemF (good_exprF g) (strict_exprF g)) (strict_elemF (good_exprF g) (strict_exprF g)) g L i l j1 e1
   cases e
   rw [cnt_mk]
   omega
theorem g8_names : ∀ (f : Nat) (acc : List T1), G8 cntL (cntL acc) (namesF f acc)
 | 0, _ => g8_fail
 | f + 1, acc => g8_tok (fun t => g8_tok (fun _ => (g8_names f _).more (by rw [cntL_app, cntL_1, cnt_mk, cntL_nil]; omega)) (g8_ret (by rw [cntL_app, cntL_1, cnt_mk, cntL_nil]; omega))) g8_fail
theorem g8_names0 : G8 cntL 0 (namesF g []) := (g8_names g []).nil
theorem g8_ends {α : Type} {c : α → Nat} {k : Nat} {n : ByteArray} {p : Par α} (h : G8 c (k + 8) p) : G8 c k (endsF n p) := g8_tok (fun _ => h) g8_fail
theorem g8_expr : G8 (Ts 7) 0 (exprF g) := g8_tr (grow_exprF g)
theorem g8_ref : G8 (Ts 6) 0 (refF g) := g8_pos fun t => g8_bind (m := 0) (g8_tr (grow_qualF g)) (fun x => g8_ret (by simp only [Ts, cnt_mk, cnt_addK, cntL_app, cntL_1, cntL_2, cntL_cons, cntL_nil, cnt_zero]; omega)) (by omega)
theorem g8_sub {p : Nat × Nat} : G8 (Ts 6) 0 (subF g p) := g8_bind (m := 0) g8_expr (fun x => g8_need (g8_bind (m := Ts 7 x + 8) g8_expr (fun y => g8_need (g8_ret (by simp only [Ts, cnt_mk, cnt_addK, cntL_app, cntL_1, cntL_2, cntL_cons, cntL_nil, cnt_zero]; omega))) (by omega))) (by omega)
theorem g8_enum {p : Nat × Nat} : G8 (Ts 6) 0 (enumF g p) := g8_bind (m := 0) g8_names0 (fun l => g8_need (g8_ret (by simp only [Ts, cnt_mk, cnt_addK, cntL_app, cntL_1, cntL_2, cntL_cons, cntL_nil, cnt_zero]; omega))) (by omega)
theorem g8_simple : G8 (Ts 6) 0 (simpleF g) := g8_pos fun t => g8_tok (fun _ => g8_enum.more (by omega)) (g8_tok (fun _ => g8_sub.more (by omega)) g8_ref)
theorem g8_formal : G8 (Ts 6) 0 (formalF g) := g8_pos fun t => g8_tok (fun _ => g8_need (g8_bind (m := 16) g8_ref (fun x => g8_ret (by simp only [Ts, cnt_mk, cnt_addK, cntL_app, cntL_1, cntL_2, cntL_cons, cntL_nil, cnt_zero]; omega)) (by omega))) g8_ref
theorem g8_paramB {nm : Bool} {p : Nat × Nat} {n : Int} : G8 (Ts 5) 0 (paramB g nm p n) :=
 g8_if (g8_bind (m := 0) g8_names0 (fun l => g8_need (g8_bind (m := cntL l + 8) g8_formal (fun x => g8_ret (by simp only [Ts, cnt_mk, cnt_addK, cntL_app, cntL_1, cntL_2, cntL_cons, cntL_nil, cnt_zero]; omega)) (by omega))) (by omega)) (g8_bind (m := 0) g8_formal (fun x => g8_ret (by simp only [Ts, cnt_mk, cnt_addK, cntL_app, cntL_1, cntL_2, cntL_cons, cntL_nil, cnt_zero]; omega)) (by omega))
theorem g8_param {nm : Bool} : G8 (Ts 5) 0 (paramF g nm) := g8_pos fun t => g8_tok (fun _ => g8_paramB.more (by omega)) g8_paramB
theorem g8_pars {sep : ByteArray} {nm : Bool} : ∀ (f : Nat) (acc : List T1), G8 cntL (cntL acc) (parsR g sep nm f acc)
 | 0, _ => g8_fail
 | f + 1, acc => g8_bind (m := cntL acc) g8_param (fun x => g8_tok (fun _ => (g8_pars f _).more (by simp only [Ts, cnt_mk, cnt_addK, cntL_app, cntL_1, cntL_2, cntL_cons, cntL_nil, cnt_zero]; omega)) (g8_ret (by simp only [Ts, cnt_mk, cnt_addK, cntL_app, cntL_1, cntL_2, cntL_cons, cntL_nil, cnt_zero]; omega))) (by omega)
theorem g8_ans {l : List T1} : G8 cntL (cntL l) (ansF g l) := g8_need (g8_tok (fun _ => g8_bind (m := cntL l + 16) g8_ref (fun x => g8_ret (by simp only [Ts, cnt_mk, cnt_addK, cntL_app, cntL_1, cntL_2, cntL_cons, cntL_nil, cnt_zero]; omega)) (by omega)) (g8_ret (by simp only [Ts, cnt_mk, cnt_addK, cntL_app, cntL_1, cntL_2, cntL_cons, cntL_nil, cnt_zero]; omega)))
theorem g8_params {sep : ByteArray} {nm : Bool} : G8 cntL 1 (paramsF g sep nm) := g8_tok (fun _ => g8_pos fun t => g8_if ((g8_ans (l := [])).nil.more (by omega)) (g8_bind (m := 9) ((g8_pars g []).nil) (fun l => g8_ans.more (by omega)) (by omega))) (g8_ret (by simp only [Ts, cnt_mk, cnt_addK, cntL_app, cntL_1, cntL_2, cntL_cons, cntL_nil, cnt_zero]; omega))
theorem g8_heading : G8 (Ts 6) 0 (headingF g) := g8_pos fun t => g8_need (g8_tok (fun n => g8_bind (m := 15) g8_params (fun l => by unfold headF; exact g8_ret (by simp only [Ts, cnt_mk, cnt_addK, cntL_app, cntL_1, cntL_2, cntL_cons, cntL_nil, cnt_zero]; omega)) (by omega)) g8_fail)
section
variable {ty : Par T1} (ht : G8 (Ts 5) 0 ty)
include ht
theorem g8_fields {pt : Par T1} (hp : G8 (Ts 0) 0 pt) {pb : Bool} : ∀ (f : Nat) (acc : List T1), G8 cntL (cntL acc) (fieldsR g ty pt pb f acc)
 | 0, _ => g8_fail
 | f + 1, acc => g8_pos fun t => g8_if (g8_bind (m := cntL acc) g8_names0 (fun l => g8_need (g8_bind (m := cntL l + cntL acc + 8) ht (fun x => g8_tok (fun _ => (g8_fields hp f _).more (by simp only [Ts, cnt_mk, cnt_addK, cntL_app, cntL_1, cntL_2, cntL_cons, cntL_nil, cnt_zero]; omega)) (g8_ret (by simp only [Ts, cnt_mk, cnt_addK, cntL_app, cntL_1, cntL_2, cntL_cons, cntL_nil, cnt_zero]; omega))) (by omega))) (by omega))
   (g8_if (g8_bind (m := cntL acc) hp (fun x => g8_tok (fun _ => g8_ret (by simp only [Ts, cnt_mk, cnt_addK, cntL_app, cntL_1, cntL_2, cntL_cons, cntL_nil, cnt_zero]; omega)) (g8_ret (by simp only [Ts, cnt_mk, cnt_addK, cntL_app, cntL_1, cntL_2, cntL_cons, cntL_nil, cnt_zero]; omega))) (by omega)) (g8_tok (fun _ => (g8_fields hp f _).more (by omega)) (g8_ret (Nat.le_refl _))))
theorem g8_plainFs : G8 cntL 0 (plainFs g ty) := (g8_fields ht g8_fail g []).nil
theorem g8_arms : ∀ (f : Nat) (acc : List T1), G8 cntL (cntL acc) (armsR g ty f acc)
 | 0, _ => g8_fail
 | f + 1, acc => g8_pos fun t => g8_if (g8_tok (fun _ => (g8_arms f _).more (by omega)) (g8_ret (Nat.le_refl _))) (g8_bind (m := cntL acc) g8_lab (fun x => g8_need (g8_bind (m := cntT x + cntL acc + 8) (g8_plainFs ht) (fun l => g8_tok (fun _ => (g8_arms f _).more (by simp only [cnt_mk, cntL_app, cntL_cons, cntL_nil]; omega)) (g8_ret (by simp only [cnt_mk, cntL_app, cntL_cons, cntL_nil]; omega))) (by omega))) (by omega))
theorem g8_part : G8 (Ts 0) 0 (partF g ty) := g8_pos fun t => g8_need (g8_tok (fun n => g8_need (g8_bind (m := 24) g8_ref (fun x => g8_need (g8_bind (m := 20) ((g8_arms ht g [x]).more (k' := Ts 6 x + 12) (by unfold Ts; rw [cntL_1]; omega)) (fun l =>
 g8_tok (fun u => g8_bind (m := cntL l + 20) (g8_plainFs ht) (fun fl => g8_need (g8_ret (by simp only [Ts, cnt_mk, cnt_addK, cntL_app, cntL_1, cntL_2, cntL_cons, cntL_nil, cnt_zero]; omega))) (by omega)) (g8_need (g8_ret (by simp only [Ts, cnt_mk, cnt_addK, cntL_app, cntL_1, cntL_2, cntL_cons, cntL_nil, cnt_zero]; omega)))) (by omega))) (by omega))) g8_fail)
theorem g8_array : ∀ (f : Nat) (p : Nat × Nat), G8 (Ts 5) 0 (arrayR g ty f p)
 | 0, _ => g8_fail
 | f + 1, p => g8_bind (m := 0) g8_simple (fun x => g8_tok (fun u => g8_bind (m := Ts 6 x) (g8_array f _) (fun y => g8_ret (by simp only [Ts, cnt_mk, cnt_addK, cntL_app, cntL_1, cntL_2, cntL_cons, cntL_nil, cnt_zero]; omega)) (by omega)) (g8_need (g8_bind (m := Ts 6 x) ht (fun y => g8_ret (by simp only [Ts, cnt_mk, cnt_addK, cntL_app, cntL_1, cntL_2, cntL_cons, cntL_nil, cnt_zero]; omega)) (by omega)))) (by omega)
theorem g8_typG : G8 (Ts 5) 0 (typG g ty) := g8_pos fun t => g8_tok (fun _ => (g8_array ht _ _).more (by omega))
 (g8_tok (fun _ => g8_bind (m := 8) ((g8_fields ht (g8_part ht) g []).nil) (fun l => g8_need (g8_ret (by simp only [Ts, cnt_mk, cnt_addK, cntL_app, cntL_1, cntL_2, cntL_cons, cntL_nil, cnt_zero]; omega))) (by omega))
 (g8_tok (fun _ => g8_need (g8_bind (m := 0) g8_simple (fun x => g8_ret (by simp only [Ts, cnt_mk, cnt_addK, cntL_app, cntL_1, cntL_2, cntL_cons, cntL_nil, cnt_zero]; omega)) (by omega)))
 (g8_tok (fun _ => g8_need (g8_bind (m := 16) ht (fun x => g8_ret (by simp only [Ts, cnt_mk, cnt_addK, cntL_app, cntL_1, cntL_2, cntL_cons, cntL_nil, cnt_zero]; omega)) (by omega)))
 (g8_tok (fun _ => g8_bind (m := 7) g8_params (fun l => g8_ret (by simp only [Ts, cnt_mk, cnt_addK, cntL_app, cntL_1, cntL_2, cntL_cons, cntL_nil, cnt_zero]; omega)) (by omega)) (g8_simple.s (by omega))))))
end
theorem g8_typ : ∀ f : Nat, G8 (Ts 5) 0 (typF g f)
 | 0 => g8_fail
 | f + 1 => g8_typG (g8_typ f)
section
variable {ty bl : Par T1}
theorem g8_const : G8 (Ts 0) 0 (constF g) := g8_tok (fun t => g8_need (g8_bind (m := 0) g8_expr (fun x => g8_ret (by simp only [Ts, cnt_mk, cnt_addK, cntL_app, cntL_1, cntL_2, cntL_cons, cntL_nil, cnt_zero]; omega)) (by omega))) g8_fail
theorem g8_type (ht : G8 (Ts 5) 0 ty) {df : Bool} : G8 (Ts 0) 0 (typeF ty df) := g8_tok (fun t => g8_pos fun u => g8_if (g8_ret (by simp only [Ts, cnt_mk, cnt_addK, cntL_app, cntL_1, cntL_2, cntL_cons, cntL_nil, cnt_zero]; omega)) (g8_need (g8_bind (m := 16) ht (fun x => g8_ret (by simp only [Ts, cnt_mk, cnt_addK, cntL_app, cntL_1, cntL_2, cntL_cons, cntL_nil, cnt_zero]; omega)) (by omega)))) g8_fail
theorem g8_var (ht : G8 (Ts 5) 0 ty) : G8 (Ts 0) 0 (varF g ty) := g8_pos fun t => g8_bind (m := 0) g8_names0 (fun l => g8_need (g8_bind (m := cntL l + 8) ht (fun x => g8_ret (by simp only [Ts, cnt_mk, cnt_addK, cntL_app, cntL_1, cntL_2, cntL_cons, cntL_nil, cnt_zero]; omega)) (by omega))) (by omega)
theorem g8_sec {q : Par T1} (hq : G8 (Ts 0) 0 q) : ∀ (f : Nat) (acc : List T1), G8 cntL (cntL acc) (secR q f acc)
 | 0, _ => g8_fail
 | f + 1, acc => g8_pos fun t => g8_if (g8_bind (m := cntL acc) hq (fun x => g8_need ((g8_sec hq f _).more (by simp only [Ts, cnt_mk, cnt_addK, cntL_app, cntL_1, cntL_2, cntL_cons, cntL_nil, cnt_zero]; omega))) (by omega)) (g8_ret (Nat.le_refl _))
theorem g8_proc (hb : G8 (Ts 0) 0 bl) {df : Bool} : G8 (Ts 0) 0 (procF g bl df) :=
 g8_bind (m := 0) g8_heading (fun h => g8_need (g8_if (g8_ret (by simp only [Ts, cnt_mk, cnt_addK, cntL_app, cntL_1, cntL_2, cntL_cons, cntL_nil, cnt_zero]; omega)) (g8_bind (m := Ts 6 h + 8) hb (fun b => g8_ends (g8_need (g8_ret (by simp only [Ts, cnt_mk, cnt_addK, cntL_app, cntL_1, cntL_2, cntL_cons, cntL_nil, cnt_zero]; omega)))) (by omega)))) (by omega)
theorem g8_imp : ∀ (f : Nat) (acc : List T1), G8 cntL (cntL acc) (impR g f acc)
 | 0, _ => g8_fail
 | f + 1, acc => g8_tok (fun t => g8_bind (m := cntL acc + 8) g8_names0 (fun l => g8_need ((g8_imp f _).more (by simp only [Ts, cnt_mk, cnt_addK, cntL_app, cntL_1, cntL_2, cntL_cons, cntL_nil, cnt_zero]; omega))) (by omega)) (g8_ret (Nat.le_refl _))
theorem g8_expB {p : Nat × Nat} {q : Int} {acc : List T1} : G8 cntL (cntL acc) (expB g p q acc) := g8_bind (m := cntL acc) g8_names0 (fun l => g8_need (g8_ret (by simp only [Ts, cnt_mk, cnt_addK, cntL_app, cntL_1, cntL_2, cntL_cons, cntL_nil, cnt_zero]; omega))) (by omega)
theorem g8_exp {acc : List T1} : G8 cntL (cntL acc) (expF g acc) := g8_tok (fun t => g8_tok (fun _ => g8_expB.more (by omega)) (g8_expB.more (by omega))) (g8_ret (Nat.le_refl _))
theorem g8_mod (hb : G8 (Ts 0) 0 bl) : G8 (Ts 0) 0 (modF g bl) :=
 g8_pos fun t => g8_need (g8_tok (fun n => g8_need (g8_bind (m := 24) ((g8_imp g []).nil) (fun l => g8_bind (m := 24) g8_exp (fun l2 => g8_bind (m := cntL l2 + 24) hb (fun b => g8_ends (g8_need (g8_ret (by simp only [Ts, cnt_mk, cnt_addK, cntL_app, cntL_1, cntL_2, cntL_cons, cntL_nil, cnt_zero]; omega)))) (by omega)) (by omega)) (by omega))) g8_fail)
theorem g8_decls (ht : G8 (Ts 5) 0 ty) (hb : G8 (Ts 0) 0 bl) {df : Bool} : ∀ (f : Nat) (acc : List T1), G8 cntL (cntL acc) (declsR g ty bl df f acc)
 | 0, _ => g8_fail
 | f + 1, acc => g8_tok (fun _ => g8_bind (m := 0) ((g8_sec g8_const g acc).more (k' := cntL acc + 8) (by omega)) (fun l => (g8_decls ht hb f l).more (by omega)) (by omega))
   (g8_tok (fun _ => g8_bind (m := 0) ((g8_sec (g8_type ht) g acc).more (k' := cntL acc + 8) (by omega)) (fun l => (g8_decls ht hb f l).more (by omega)) (by omega))
   (g8_tok (fun _ => g8_bind (m := 0) ((g8_sec (g8_var ht) g acc).more (k' := cntL acc + 8) (by omega)) (fun l => (g8_decls ht hb f l).more (by omega)) (by omega))
   (g8_pos fun t => g8_if (g8_bind (m := cntL acc) (g8_proc hb) (fun x => (g8_decls ht hb f _).more (by simp only [Ts, cnt_mk, cnt_addK, cntL_app, cntL_1, cntL_2, cntL_cons, cntL_nil, cnt_zero]; omega)) (by omega)) (g8_if (g8_bind (m := cntL acc) (g8_mod hb) (fun x => (g8_decls ht hb f _).more (by simp only [Ts, cnt_mk, cnt_addK, cntL_app, cntL_1, cntL_2, cntL_cons, cntL_nil, cnt_zero]; omega)) (by omega)) (g8_ret (Nat.le_refl _))))))
theorem g8_bd : G8 cntT 2 (bdF g) := g8_of (St.g2_bodyF g (g + 1)).mono (grw_bodyF g (g + 1))
theorem g8_blockG (ht : G8 (Ts 5) 0 ty) (hb : G8 (Ts 0) 0 bl) : G8 (Ts 0) 0 (blockG g ty bl) :=
 g8_pos fun t => g8_bind (m := 0) ((g8_decls ht hb g []).nil) (fun l => g8_tok (fun _ => g8_bind (m := cntL l + 6) g8_bd (fun b => g8_need (g8_ret (by simp only [Ts, cnt_mk, cnt_addK, cntL_app, cntL_1, cntL_2, cntL_cons, cntL_nil, cnt_zero]; omega))) (by omega)) (g8_pos fun u => g8_need (g8_ret (by simp only [Ts, cnt_mk, cnt_addK, cntL_app, cntL_1, cntL_2, cntL_cons, cntL_nil, cnt_zero]; omega)))) (by omega)
end
theorem g8_block : ∀ f : Nat, G8 (Ts 0) 0 (blockF g f)
 | 0 => g8_fail
 | f + 1 => g8_blockG (g8_typ _) (g8_block f)
theorem g8_def : G8 cntL 0 (defF g) := (g8_decls (g8_typ _) g8_fail g []).nil
theorem g8_imports : ∀ (f : Nat) (acc : List T1), G8 cntL (cntL acc) (importsR g f acc)
 | 0, _ => g8_fail
 | f + 1, acc => g8_tok (fun t => g8_tok (fun n => g8_need (g8_bind (m := cntL acc + 24) g8_names0 (fun l => g8_need ((g8_imports f _).more (by simp only [Ts, cnt_mk, cnt_addK, cntL_app, cntL_1, cntL_2, cntL_cons, cntL_nil, cnt_zero]; omega))) (by omega))) g8_fail)
   (g8_tok (fun t => g8_bind (m := cntL acc + 8) g8_names0 (fun l => g8_need ((g8_imports f _).more (by simp only [Ts, cnt_mk, cnt_addK, cntL_app, cntL_1, cntL_2, cntL_cons, cntL_nil, cnt_zero]; omega))) (by omega)) (g8_ret (Nat.le_refl _)))
theorem g8_tail {bl : Par T1} {df : Par (List T1)} (hb : G8 (Ts 0) 0 bl) (hd : G8 cntL 0 df) {k : Nat} {p : Nat × Nat} : G8 (Ts 0) 0 (Un.tailF g bl df k p) :=
 g8_need (g8_tok (fun n => g8_need (g8_bind (m := 24) ((g8_imports g []).nil) (fun l => g8_bind (m := 24) (g8_if (c := cntL) (k := cntL l) (g8_bind (m := cntL l) hd (fun d => g8_need (g8_ret (by simp only [Ts, cnt_mk, cnt_addK, cntL_app, cntL_1, cntL_2, cntL_cons, cntL_nil, cnt_zero]; omega))) (by omega)) (g8_bind (m := cntL l) hb (fun b => g8_ret (by simp only [Ts, cnt_mk, cnt_addK, cntL_app, cntL_1, cntL_2, cntL_cons, cntL_nil, cnt_zero]; omega)) (by omega))) (fun l2 => g8_tok (fun _ => g8_need (g8_ret (by simp only [Ts, cnt_mk, cnt_addK, cntL_app, cntL_1, cntL_2, cntL_cons, cntL_nil, cnt_zero]; omega))) g8_fail) (by omega)) (by omega))) g8_fail)
theorem g8_unit {bl : Par T1} {df : Par (List T1)} (hb : G8 (Ts 0) 0 bl) (hd : G8 cntL 0 df) : G8 (Ts 0) 0 (unitG g bl df) :=
 g8_pos fun t => g8_tok (fun _ => (g8_tail hb hd).more (by omega)) (g8_tok (fun _ => (g8_tail hb hd).more (by omega)) (g8_tail hb hd))
theorem g8_parse {L : List PT} {x : T1} {j : Nat} (h : parseU g L 0 = .ok (x, j)) : cntT x ≤ 8 * j := by
 have := (g8_bind (c' := Ts 0) (k' := 0) (m := 0) (g8_unit (g8_block (g := g) g) g8_def) (fun x => g8_pos fun t => g8_if (g8_ret (by omega)) g8_fail) (by omega) : G8 (Ts 0) 0 (parseU g)) L 0 x j h
 unfold Ts at this
 omega
end
end Go.Proofs.YtkemhmfdooghkaaGreatDoor.Gw
namespace Go.Proofs.YtkemhmfdooghkaaGreatDoor.Un
open Go.RowKit
open Tr (Nd Fo RepS RepN Rep)
open Lx (Tk noTk Tok txt lex lex_at sepR real real_step TkOK lex_txt bt bt_size item scanL Src src_of at_ sum_take_le le_sum)
open Fl Ex
def blks : List ByteArray := [⟨#[32]⟩, ⟨#[10]⟩, ⟨#[40, 42, 32, 120, 32, 42, 41]⟩, ⟨#[9, 32, 40, 42, 32, 40, 42, 32, 42, 41, 32, 42, 41]⟩]
theorem lex_blk {b : ByteArray} (h : b ∈ blks) (r : List UInt8) : lex (b.data.toList ++ r) = lex r ∧ sepR (b.data.toList ++ r) := by
 simp only [blks, List.mem_cons, List.not_mem_nil, or_false] at h
 rcases h with rfl | rfl | rfl | rfl
 ·exact ⟨lex_at 1 rfl (by simp) rfl, .inr ⟨32, r, rfl, by simp⟩⟩
 ·exact ⟨lex_at 1 rfl (by simp) rfl, .inr ⟨10, r, rfl, by simp⟩⟩
 ·exact ⟨lex_at 7 rfl (by simp) rfl, .inr ⟨40, _, rfl, by simp⟩⟩
 ·exact ⟨((lex_at (r := 32 :: 40 :: 42 :: 32 :: 40 :: 42 :: 32 :: 42 :: 41 :: 32 :: 42 :: 41 :: r) 1 rfl (by simp) rfl).trans (lex_at (r := 40 :: 42 :: 32 :: 40 :: 42 :: 32 :: 42 :: 41 :: 32 :: 42 :: 41 :: r) 1 rfl (by simp) rfl)).trans (lex_at 11 rfl (by simp) rfl), .inr ⟨9, _, rfl, by simp⟩⟩
def kf (l : List Nat) (i : Nat) : Nat := if h : i < l.length then l[i] % 4 else 0
theorem kf_lt (l : List Nat) (i : Nat) : kf l i < 4 := by
 unfold kf
 split
 ·exact Nat.mod_lt _ (by omega)
 ·omega
def blkL (k : Nat) : List UInt8 := (blks.getD k ⟨#[]⟩).data.toList
theorem blk_mem {k : Nat} (h : k < 4) : blks.getD k ⟨#[]⟩ ∈ blks := by
 have : k < blks.length := h
 rw [List.getD_eq_getElem?_getD, List.getElem?_eq_getElem this]
 exact List.getElem_mem _
theorem blk_len {k : Nat} (h : k < 4) : (blkL k).length ≤ 13 := by
 rcases (show k = 0 ∨ k = 1 ∨ k = 2 ∨ k = 3 by omega) with rfl | rfl | rfl | rfl <;> decide
def addB (b : List Nat) (t : Tok) (i : Nat) : List UInt8 := if t.1.kind = 0 then [] else txt t.1 ++ blkL (kf b i)
def accB (b : List Nat) (l : List Tok) : Nat → List UInt8
 | 0 => []
 | i + 1 => accB b l i ++ (match l[i]? with | some t => addB b t i | none => [])
theorem accB_step (b : List Nat) {l : List Tok} {i : Nat} (h : i < l.length) : accB b l (i + 1) = accB b l i ++ addB b l[i] i := by
 rw [accB, List.getElem?_eq_getElem h]
theorem lex_accB (b : List Nat) {l : List Tok} (hl : ∀ t ∈ l, t.1.kind ≠ 0 → TkOK t.1) : ∀ (i : Nat), i ≤ l.length → ∀ r, lex (accB b l i ++ r) = (lex r).map (real (l.take i) ++ ·)
 | 0, _, r => by
   show lex r = _
   all_goals (cases lex r <;> rfl)
 | i + 1, h, r => by
   have hi : i < l.length := by omega
   rw [accB_step b hi, List.append_assoc, lex_accB b hl i (by omega), real_step hi]
   unfold addB
   by_cases hk : l[i].1.kind = 0
   ·rw [if_pos hk, if_pos hk, List.append_nil, List.nil_append]
   ·rw [if_neg hk, if_neg hk]
    obtain ⟨h1, h2⟩ := lex_blk (blk_mem (kf_lt b i)) r
    rw [List.append_assoc, lex_txt (hl _ (List.getElem_mem hi) hk) (show sepR (blkL (kf b i) ++ r) from h2)]
    rw [show lex (blkL (kf b i) ++ r) = lex r from h1]
    cases lex r with
    | none => rfl
    | some q => simp
theorem accB_len (b : List Nat) {l : List Tok} : ∀ (i : Nat), i ≤ l.length → (accB b l i).length ≤ ((l.take i).map fun t => (txt t.1).length + 1).sum + 13 * i
 | 0, _ => by simp [accB]
 | i + 1, h => by
   have hi : i < l.length := by omega
   have ih := accB_len b (l := l) i (by omega)
   rw [accB_step b hi, List.length_append, List.take_add_one, List.getElem?_eq_getElem hi]
   simp only [Option.toList, List.map_append, List.map_cons, List.map_nil, List.sum_append, List.sum_cons, List.sum_nil]
   have : (addB b l[i] i).length ≤ (txt l[i].1).length + 13 := by
    unfold addB
    split
    ·simp
    ·rw [List.length_append]
     have := blk_len (kf_lt b i)
     omega
   omega
def textB (b : List Nat) (l : List Tok) : List UInt8 := accB b l (l.length - 1)
theorem text_lex (b : List Nat) {s : List UInt8} {l : List Tok} (h : Src s l) : lex (textB b l) = some (real l) := by
 have h2 := lex_accB b h.ok (l.length - 1) (by omega) []
 rw [List.append_nil] at h2
 unfold textB
 rw [h2]
 show some (real (l.take (l.length - 1)) ++ []) = _
 rw [List.append_nil]
 have hr := h.real
 have hlen : l.length = (real l).length + 1 := by have := congrArg List.length hr; simpa using this
 have hl : l.length - 1 < l.length := by omega
 have hk : l[l.length - 1].1 = noTk := by
  have e : (l.map (·.1))[l.length - 1]'(by rw [List.length_map]; exact hl) = noTk := by
   simp only [hr]
   rw [List.getElem_append_right (by omega)]
   simp
  rw [List.getElem_map] at e
  exact e
 have h3 := real_step hl
 rw [show l.length - 1 + 1 = l.length by omega, List.take_length, hk, if_pos (by rfl), List.append_nil] at h3
 rw [← h3]
theorem text_len (b : List Nat) {s : List UInt8} {l : List Tok} (h : Src s l) (i : Nat) (hi : i ≤ l.length) : (accB b l i).length ≤ 4 * s.length + 1 + 13 * (s.length + 1) := by
 have h1 := accB_len b (l := l) i hi
 have h2 := sum_take_le (fun t => (txt t.1).length + 1) l i
 have h3 := h.sum
 have h4 := h.len
 have h5 : 13 * i ≤ 13 * (s.length + 1) := by omega
 omega
theorem alk_rows {s t : List UInt8} {l m : List Tok} (h : m.map (·.1) = l.map (·.1)) : Ev.Alk (rowT s l) (rowT t m) := by
 intro i
 have hl : m.length = l.length := by have := congrArg List.length h; simpa using this
 rcases Nat.lt_or_ge i l.length with h1 | h1
 ·have e : m[i].1 = l[i].1 := by
   have := congrArg (fun q => q[i]?) h
   simp only [List.getElem?_map, List.getElem?_eq_getElem h1, List.getElem?_eq_getElem (show i < m.length by omega), Option.map_some, Option.some.injEq] at this
   exact this
  unfold tk
  simp only [rowT, List.getElem?_map, List.getElem?_eq_getElem h1, List.getElem?_eq_getElem (show i < m.length by omega), Option.map_some, Option.getD_some]
  exact e
 ·rw [tk_end (by rw [rowT_len]; omega), tk_end (by rw [rowT_len]; exact h1)]
inductive Both (L M : List PT) (g : Nat) : Prop where
 | ok (x y : T1) (i : Nat) (h1 : parseU g L 0 = .ok (x, i)) (h2 : parseU g M 0 = .ok (y, i)) (hs : (Fo.node x.1 x.2 .no).same (.node y.1 y.2 .no) = true) (hc : (Fo.node x.1 x.2 .no).count ≤ 1000000) : Both L M g
 | err (i : Nat) (h1 : parseU g L 0 = .error i) (h2 : parseU g M 0 = .error i) : Both L M g
theorem both_any {L M : List PT} (g : Nat) (h : Ev.Alk L M) (hL : L.length ≤ 60000) : Both L M g := by
 have h1 := Ev.e_parse g L M h 0
 have h2 := St.g2_max (g2_parse g) L 0
 cases e1 : parseU g L 0 with
 | error k =>
   rw [e1] at h1
   cases e2 : parseU g M 0 with
   | error k' => rw [e2] at h1; have h3 : k = k' := h1; subst h3; exact .err k e1 e2
   | ok r => rw [e2] at h1; exact h1.elim
 | ok r =>
   obtain ⟨x, i⟩ := r
   rw [e1] at h1 h2
   cases e2 : parseU g M 0 with
   | error k => rw [e2] at h1; exact h1.elim
   | ok r' =>
     obtain ⟨y, i'⟩ := r'
     rw [e2] at h1
     obtain ⟨h3, h4⟩ := h1
     subst h3
     have h5 := Gw.g8_parse e1
     have h6 := h2.2.1 (Nat.zero_le _)
     refine .ok x y _ e1 e2 h4 ?_
     have h7 : (Fo.node x.1 x.2 .no).count ≤ 8 * i := h5
     simp only [posE] at h6
     omega
end Go.Proofs.YtkemhmfdooghkaaGreatDoor.Un
