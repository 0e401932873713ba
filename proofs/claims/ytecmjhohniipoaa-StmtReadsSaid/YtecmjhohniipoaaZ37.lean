/- A part of the proof: W1, U9, U10. -/
import Derived.Test.YtecmjhohniipoaaZ1
import Derived.Test.YtecmjhohniipoaaZ22
import Derived.Test.YtecmjhohniipoaaZ35
import Derived.Defers
import Derived.Recover
import Derived.Laws.Pointers
import Derived.RegionTactic
import Derived.Deep.RegionLaw
import Derived.Deep.AppendLies
import Derived.Deep.LoopGhost
set_option linter.unusedSimpArgs false
set_option linter.unusedVariables false

section
namespace Go.Proofs.Ytecmjhohniipoaa.St
open Go.RowKit
open Tr (Nd Fo)
open Lx (Tk noTk)
open Ex
def Grw {α : Type} (c : α → Nat) (k : Nat) (p : Par α) : Prop := ∀ L i a j, p L i = .ok (a, j) → c a + 3 * i ≤ k + 3 * j
section
variable {α β : Type} {c : α → Nat} {c' : β → Nat} {k k' : Nat}
theorem Grw.more {p : Par α} (h : Grw c k p) (hk : k ≤ k') : Grw c k' p := fun L i a j e => by have := h L i a j e; omega
theorem grw_of {p : Par α} (hm : ∀ L i, i ≤ posE (p L i)) (h : Grow c k p) : Grw c k p := fun L i a j e => by
 have h1 := h L i a j e
 have h2 := hm L i
 rw [e] at h2
 have h3 : i ≤ j := h2
 omega
theorem grw_ret {a : α} (h : c a ≤ k) : Grw c k (retP a) := fun L i b j e => by cases e; omega
theorem grw_fail : Grw c k (failP (α := α)) := fun L i b j e => by cases e
theorem grw_bind {p : Par α} {q : α → Par β} {m : Nat} (hp : Grw c k p) (hq : ∀ a, Grw c' (c a + m) (q a)) (hk : k + m ≤ k') : Grw c' k' (bindP p q) := by
 intro L i b j e
 unfold bindP at e
 cases e1 : p L i with
 | error x => rw [e1] at e; cases e
 | ok r =>
   obtain ⟨a, j1⟩ := r
   rw [e1] at e
   have h1 := hp L i a j1 e1
   have h2 := hq a L j1 b j e
   omega
theorem grw_tok {t : PT → Bool} {A : PT → Par α} {B : Par α} (hA : ∀ x, Grw c (k + 3) (A x)) (hB : Grw c k B) : Grw c k (tokP t A B) := by
 intro L i a j e
 unfold tokP at e
 split at e
 ·have := hA _ L (i + 1) a j e; omega
 ·exact hB L i a j e
theorem grw_pos {q : PT → Par α} (h : ∀ x, Grw c k (q x)) : Grw c k (posP q) := fun L i a j e => h _ L i a j e
theorem grw_need {s : ByteArray} {p : Par α} (h : Grw c (k + 3) p) : Grw c k (needF s p) := grw_tok (fun _ => h) grw_fail
end
theorem cntL_app (b : List T1) : ∀ a : List T1, cntL (a ++ b) = cntL a + cntL b
 | [] => by rw [List.nil_append, cntL_nil, Nat.zero_add]
 | x :: a => by rw [List.cons_append, cntL_cons, cntL_cons, cntL_app b a]; omega
theorem cntL_1 (x : T1) : cntL [x] = cntT x := by rw [cntL_cons, cntL_nil]; rfl
theorem cntL_2 (x y : T1) : cntL [x, y] = cntT x + cntT y := by rw [cntL_cons, cntL_1]
section
variable {g : Nat} {bd : Par T1}
theorem grw_expr : Grw cntT 0 (exprF g) := grw_of (good_exprF g).mono (grow_exprF g)
theorem grw_design : Grw cntT 0 (designF (exprF g) g) := grw_of (good_designF (good_exprF g) g).mono (grow_designF (grow_exprF g) g)
theorem grw_labels : Grw cntT 1 (labelsF g) := grw_of (good_labelsF g).mono (grow_labels g)
theorem grw_between {s : ByteArray} : Grw cntL 0 (betweenF (exprF g) g s) := grw_of (good_betweenF (good_exprF g) g s).mono (grow_betweenF (grow_exprF g) g s)
theorem grw_endS {k : Nat} {p : Nat × Nat} {n : ByteArray} {l : List T1} : Grw cntT (cntL l) (endS k p n l) := grw_need (grw_ret (by rw [cnt_mk]; omega))
theorem grw_returnS {p : Nat × Nat} : Grw cntT 3 (returnS g p) := grw_pos fun t => by
 split
 ·exact grw_ret (by rw [cnt_mk, cntL_nil]; omega)
 ·exact grw_bind (m := 3) grw_expr (fun x => grw_ret (by rw [cnt_mk, cntL_1]; omega)) (by omega)
theorem grw_plainS : Grw cntT 1 (plainS g) := grw_pos fun t0 => grw_bind (m := 1) grw_design (fun d => grw_pos fun t1 => grw_tok (fun _ => grw_bind (m := cntT d + 1) grw_expr (fun y => grw_ret (by rw [cnt_mk, cntL_2]; omega)) (by omega))
 (grw_tok (fun _ => grw_bind (m := cntT d + 1) grw_between (fun l => grw_ret (by rw [cnt_mk, cntL_cons]; omega)) (by omega)) (grw_ret (by rw [cnt_mk, cntL_1]; omega)))) (by omega)
theorem grw_exitS {p : Nat × Nat} : Grw cntT 3 (exitS p) := grw_ret (by rw [cnt_mk, cntL_nil]; omega)
variable (hb : Grw cntT 2 bd)
include hb
theorem grw_ifsF : ∀ (f : Nat) (acc : List T1), Grw cntL (cntL acc) (ifsF g bd f acc)
 | 0, _ => grw_fail
 | f + 1, acc => grw_bind (m := cntL acc) grw_expr (fun x => grw_need (grw_bind (m := cntT x + cntL acc + 1) hb (fun b => grw_tok (fun _ => (grw_ifsF f _).more (by rw [cntL_app, cntL_2]; omega)) (grw_ret (by rw [cntL_app, cntL_2]; omega))) (by omega))) (by omega)
theorem grw_elseS {k : Nat} {p : Nat × Nat} {l : List T1} : Grw cntT (cntL l) (elseS bd k p l) := grw_tok (fun _ => grw_bind (m := cntL l + 1) hb (fun b => grw_endS.more (by rw [cntL_app, cntL_1]; omega)) (by omega)) grw_endS
theorem grw_ifS {p : Nat × Nat} : Grw cntT 3 (ifS g bd p) := grw_bind (m := 0) (grw_ifsF hb _ _) (fun l => grw_elseS hb) (by rw [cntL_nil]; omega)
theorem grw_armsF : ∀ (f : Nat) (acc : List T1), Grw cntL (cntL acc + 1) (armsF g bd f acc)
 | 0, _ => grw_fail
 | f + 1, acc => grw_pos fun t0 => by
   split
   ·exact grw_tok (fun _ => (grw_armsF f acc).more (by omega)) (grw_ret (by omega))
   ·exact grw_bind (m := cntL acc) grw_labels (fun x => grw_need (grw_bind (m := cntT x + cntL acc + 1) hb (fun b => grw_tok (fun _ => (grw_armsF f _).more (by rw [cntL_app, cntL_1, cnt_mk, cntL_2]; omega)) (grw_ret (by rw [cntL_app, cntL_1, cnt_mk, cntL_2]; omega))) (by omega))) (by omega)
theorem grw_caseS {p : Nat × Nat} : Grw cntT 3 (caseS g bd p) := grw_bind (m := 3) grw_expr (fun x => grw_need (grw_bind (m := 0) ((grw_armsF hb _ _).more (k' := cntT x + 1) (by rw [cntL_1]; omega)) (fun l => grw_tok (fun t => grw_bind (m := cntL l + 1) hb (fun b => grw_endS.more (by rw [cntL_app, cntL_1, cnt_mk, cntL_1]; omega)) (by omega)) grw_endS) (by omega))) (by omega)
theorem grw_whileS {p : Nat × Nat} : Grw cntT 3 (whileS g bd p) := grw_bind (m := 3) grw_expr (fun x => grw_need (grw_bind (m := cntT x + 1) hb (fun b => grw_endS.more (by rw [cntL_2]; omega)) (by omega))) (by omega)
theorem grw_withS {p : Nat × Nat} : Grw cntT 3 (withS g bd p) := grw_bind (m := 3) grw_design (fun x => grw_need (grw_bind (m := cntT x + 1) hb (fun b => grw_endS.more (by rw [cntL_2]; omega)) (by omega))) (by omega)
theorem grw_repS {p : Nat × Nat} : Grw cntT 3 (repS g bd p) := grw_bind (m := 1) hb (fun b => grw_need (grw_bind (m := cntT b + 1) grw_expr (fun x => grw_ret (by rw [cnt_mk, cntL_2]; omega)) (by omega))) (by omega)
theorem grw_loopS {p : Nat × Nat} : Grw cntT 3 (loopS bd p) := grw_bind (m := 1) hb (fun b => grw_endS.more (by rw [cntL_1]; omega)) (by omega)
theorem grw_forE {p : Nat × Nat} {v : ByteArray} {a z y : T1} : Grw cntT (cntT a + cntT z + cntT y) (forE bd p v a z y) := grw_need (grw_bind (m := cntT a + cntT z + cntT y) hb (fun b => grw_endS.more (by rw [cntL_cons, cntL_cons, cntL_2]; omega)) (by omega))
theorem grw_forS {p : Nat × Nat} : Grw cntT 3 (forS g bd p) := grw_tok (fun v => grw_need (grw_bind (m := 6) grw_expr (fun a => grw_need (grw_bind (m := cntT a + 6) grw_expr (fun z => grw_tok (fun _ => grw_bind (m := cntT a + cntT z) grw_expr (fun y => (grw_forE hb).more (by omega)) (by omega)) ((grw_forE hb).more (by have := cnt_zero; omega))) (by omega))) (by omega))) grw_fail
theorem grw_alts : ∀ x ∈ alts g bd, ∀ p, Grw cntT 3 (x.2 p) := by
 intro x hx p
 unfold alts at hx
 simp only [List.mem_cons, List.not_mem_nil, or_false] at hx
 rcases hx with rfl | rfl | rfl | rfl | rfl | rfl | rfl | rfl | rfl
 ·exact grw_ifS hb
 ·exact grw_caseS hb
 ·exact grw_whileS hb
 ·exact grw_repS hb
 ·exact grw_loopS hb
 ·exact grw_exitS
 ·exact grw_forS hb
 ·exact grw_withS hb
 ·exact grw_returnS
omit hb in
theorem grw_stmL : ∀ (l : List (ByteArray × (Nat × Nat → Par T1))), (∀ x ∈ l, ∀ p, Grw cntT 3 (x.2 p)) → Grw cntL 1 (stmL g l)
 | [], _ => grw_pos fun t => by
   split
   ·exact grw_bind (m := 0) grw_plainS (fun x => grw_ret (by rw [cntL_1]; omega)) (by omega)
   ·exact grw_ret (by rw [cntL_nil]; omega)
 | (s, q) :: r, h => grw_tok (fun t => grw_bind (m := 0) (h _ (List.mem_cons_self ..) _) (fun x => grw_ret (by rw [cntL_1]; omega)) (by omega)) (grw_stmL r fun x hx => h x (List.mem_cons_of_mem _ hx))
theorem grw_bodyR : ∀ (f : Nat) (acc : List T1), Grw cntL (cntL acc + 1) (bodyR g bd f acc)
 | 0, _ => grw_fail
 | f + 1, acc => grw_bind (m := cntL acc) (grw_stmL _ (grw_alts hb)) (fun s => grw_tok (fun _ => (grw_bodyR f _).more (by rw [cntL_app]; omega)) (grw_ret (by rw [cntL_app]; omega))) (by omega)
theorem grw_bodyG : Grw cntT 2 (bodyG g bd) := grw_pos fun t0 => grw_bind (m := 1) (grw_bodyR hb _ _) (fun l => grw_ret (by rw [cnt_mk]; omega)) (by rw [cntL_nil]; omega)
end
theorem grw_bodyF (g : Nat) : ∀ f, Grw cntT 2 (bodyF g f)
 | 0 => grw_fail
 | f + 1 => grw_bodyG (grw_bodyF g f)
theorem fitL_app {b : List T1} (hb : fitL b) : ∀ {a : List T1}, fitL a → fitL (a ++ b)
 | [], _ => hb
 | x :: a, h => fitL_cons ⟨h.1, h.2.1, h.2.2.1, h.2.2.2.1, h.2.2.2.2.1, trivial⟩ (fitL_app hb h.2.2.2.2.2)
theorem fitL_1 {x : T1} (hx : fitT x) : fitL [x] := fitL_cons hx fitL_nil
theorem fitL_2 {x y : T1} (hx : fitT x) (hy : fitT y) : fitL [x, y] := fitL_cons hx (fitL_1 hy)
section
variable {g : Nat} {bd : Par T1}
theorem ft_design : Ft fitT (designF (exprF g) g) := ft_designF (ft_expr g) g
theorem ft_endS {k : Nat} {t : PT} {n : ByteArray} {l : List T1} (hk : k < 256) (ht : TF t) (hn : n.size ≤ 9223372036854775807) (hl : fitL l) : Ft fitT (endS k t.2.1 n l) := ft_needF _ (ft_ret (fit_mk hk ht hn hl))
theorem ft_returnS {t : PT} (ht : TF t) : Ft fitT (returnS g t.2.1) := ft_pos fun t1 _ => by
 split
 ·exact ft_ret (fit_0 (by decide) ht nil_small)
 ·exact ft_bind (ft_expr g) fun x hx => ft_ret (fit_1 (by decide) ht nil_small hx)
theorem ft_plainS : Ft fitT (plainS g) := ft_pos fun t0 h0 => ft_bind ft_design fun d hd => ft_pos fun t1 h1 => ft_tok (fun _ _ _ => ft_bind (ft_expr g) fun y hy => ft_ret (fit_2 (by decide) h1 nil_small hd hy))
 (ft_tok (fun _ _ _ => ft_bind (ft_betweenF (ft_expr g) g _) fun l hl => ft_ret (fit_mk (by decide) h0 nil_small (fitL_cons hd hl))) (ft_ret (fit_1 (by decide) h0 nil_small hd)))
theorem ft_exitS {t : PT} (ht : TF t) : Ft fitT (exitS t.2.1) := ft_ret (fit_0 (by decide) ht nil_small)
variable (hb : Ft fitT bd)
include hb
theorem ft_ifsF : ∀ (f : Nat) (acc : List T1), fitL acc → Ft fitL (ifsF g bd f acc)
 | 0, _, _ => ft_fail
 | f + 1, acc, ha => ft_bind (ft_expr g) fun x hx => ft_needF _ (ft_bind hb fun b hb1 => ft_tok (fun _ _ _ => ft_ifsF f _ (fitL_app (fitL_2 hx hb1) ha)) (ft_ret (fitL_app (fitL_2 hx hb1) ha)))
theorem ft_elseS {k : Nat} {t : PT} {l : List T1} (hk : k < 256) (ht : TF t) (hl : fitL l) : Ft fitT (elseS bd k t.2.1 l) := ft_tok (fun _ _ _ => ft_bind hb fun b hb1 => ft_endS hk ht nil_small (fitL_app (fitL_1 hb1) hl)) (ft_endS hk ht nil_small hl)
theorem ft_ifS {t : PT} (ht : TF t) : Ft fitT (ifS g bd t.2.1) := ft_bind (ft_ifsF hb _ _ fitL_nil) fun l hl => ft_elseS hb (by decide) ht hl
theorem ft_armsF : ∀ (f : Nat) (acc : List T1), fitL acc → Ft fitL (armsF g bd f acc)
 | 0, _, _ => ft_fail
 | f + 1, acc, ha => ft_pos fun t0 h0 => by
   split
   ·exact ft_tok (fun _ _ _ => ft_armsF f acc ha) (ft_ret ha)
   ·exact ft_bind (ft_labels g) fun x hx => ft_needF _ (ft_bind hb fun b hb1 => ft_tok (fun _ _ _ => ft_armsF f _ (fitL_app (fitL_1 (fit_2 (by decide) h0 nil_small hx hb1)) ha)) (ft_ret (fitL_app (fitL_1 (fit_2 (by decide) h0 nil_small hx hb1)) ha)))
theorem ft_caseS {t : PT} (ht : TF t) : Ft fitT (caseS g bd t.2.1) := ft_bind (ft_expr g) fun x hx => ft_needF _ (ft_bind (ft_armsF hb _ _ (fitL_1 hx)) fun l hl => ft_tok (fun t1 h1 _ => ft_bind hb fun b hb1 => ft_endS (by decide) ht nil_small (fitL_app (fitL_1 (fit_1 (by decide) h1 nil_small hb1)) hl)) (ft_endS (by decide) ht nil_small hl))
theorem ft_whileS {t : PT} (ht : TF t) : Ft fitT (whileS g bd t.2.1) := ft_bind (ft_expr g) fun x hx => ft_needF _ (ft_bind hb fun b hb1 => ft_endS (by decide) ht nil_small (fitL_2 hx hb1))
theorem ft_withS {t : PT} (ht : TF t) : Ft fitT (withS g bd t.2.1) := ft_bind ft_design fun x hx => ft_needF _ (ft_bind hb fun b hb1 => ft_endS (by decide) ht nil_small (fitL_2 hx hb1))
theorem ft_repS {t : PT} (ht : TF t) : Ft fitT (repS g bd t.2.1) := ft_bind hb fun b hb1 => ft_needF _ (ft_bind (ft_expr g) fun x hx => ft_ret (fit_2 (by decide) ht nil_small hb1 hx))
theorem ft_loopS {t : PT} (ht : TF t) : Ft fitT (loopS bd t.2.1) := ft_bind hb fun b hb1 => ft_endS (by decide) ht nil_small (fitL_1 hb1)
theorem ft_forE {t : PT} {v : ByteArray} {a z y : T1} (ht : TF t) (hv : v.size ≤ 9223372036854775807) (ha : fitT a) (hz : fitT z) (hy : fitT y) : Ft fitT (forE bd t.2.1 v a z y) := ft_needF _ (ft_bind hb fun b hb1 => ft_endS (by decide) ht hv (fitL_cons ha (fitL_cons hz (fitL_2 hy hb1))))
theorem ft_forS {t : PT} (ht : TF t) : Ft fitT (forS g bd t.2.1) := ft_tok (fun v hv _ => ft_needF _ (ft_bind (ft_expr g) fun a ha => ft_needF _ (ft_bind (ft_expr g) fun z hz => ft_tok (fun _ _ _ => ft_bind (ft_expr g) fun y hy => ft_forE hb ht hv.size ha hz hy) (ft_forE hb ht hv.size ha hz fit_zero)))) ft_fail
theorem ft_alts : ∀ x ∈ alts g bd, ∀ t, TF t → Ft fitT (x.2 t.2.1) := by
 intro x hx t ht
 unfold alts at hx
 simp only [List.mem_cons, List.not_mem_nil, or_false] at hx
 rcases hx with rfl | rfl | rfl | rfl | rfl | rfl | rfl | rfl | rfl
 ·exact ft_ifS hb ht
 ·exact ft_caseS hb ht
 ·exact ft_whileS hb ht
 ·exact ft_repS hb ht
 ·exact ft_loopS hb ht
 ·exact ft_exitS ht
 ·exact ft_forS hb ht
 ·exact ft_withS hb ht
 ·exact ft_returnS ht
omit hb in
theorem ft_stmL : ∀ (l : List (ByteArray × (Nat × Nat → Par T1))), (∀ x ∈ l, ∀ t, TF t → Ft fitT (x.2 t.2.1)) → Ft fitL (stmL g l)
 | [], _ => ft_pos fun t _ => by
   split
   ·exact ft_bind ft_plainS fun x hx => ft_ret (fitL_1 hx)
   ·exact ft_ret fitL_nil
 | (s, q) :: r, h => ft_tok (fun t ht _ => ft_bind (h _ (List.mem_cons_self ..) t ht) fun x hx => ft_ret (fitL_1 hx)) (ft_stmL r fun x hx => h x (List.mem_cons_of_mem _ hx))
theorem ft_bodyR : ∀ (f : Nat) (acc : List T1), fitL acc → Ft fitL (bodyR g bd f acc)
 | 0, _, _ => ft_fail
 | f + 1, acc, ha => ft_bind (ft_stmL _ (ft_alts hb)) fun s hs => ft_tok (fun _ _ _ => ft_bodyR f _ (fitL_app hs ha)) (ft_ret (fitL_app hs ha))
theorem ft_bodyG : Ft fitT (bodyG g bd) := ft_pos fun t0 h0 => ft_bind (ft_bodyR hb _ _ fitL_nil) fun l hl => ft_ret (fit_mk (by decide) h0 nil_small hl)
end
theorem ft_bodyF (g : Nat) : ∀ f, Ft fitT (bodyF g f)
 | 0 => ft_fail
 | f + 1 => ft_bodyG (ft_bodyF g f)
theorem body_fit {L : List PT} {g f i j : Nat} {x : T1} (hL : FitRow L) (hl : L.length ≤ 20000) (hi : i ≤ 60000) (h : bodyF g f L i = .ok (x, j)) : fitT x ∧ cntT x ≤ 1000000 := by
 refine ⟨ft_bodyF g f L i x j hL h, ?_⟩
 have h1 := grw_bodyF g f L i x j h
 have h2 := g2_max (g2_bodyF g f) L i
 rw [h] at h2
 have h3 : (i ≤ L.length → j ≤ L.length) ∧ (L.length ≤ i → j = i) := ⟨h2.2.1, h2.2.2⟩
 rcases Nat.lt_or_ge i L.length with h4 | h4
 ·have := h3.1 (Nat.le_of_lt h4); omega
 ·have := h3.2 h4; omega
end Go.Proofs.Ytecmjhohniipoaa.St
end

section
namespace Go.Proofs.Ytecmjhohniipoaa.St
open Go.RowKit
open Tr (Nd Fo RepS RepN Rep cellsN)
open Lx (Tk noTk Blk run_store_complexL TokAt)
open Fl
open Ex
attribute [local go_sem] run_store_complexL run_field1 run_field3
theorem body_any {g : Nat} {w0 : World} {br c : Nat} {A : Option Addr} {L : List PT} (ht : TkS w0 br A L) (hg : L.length < g) : ∀ (f lo : Nat), L.length < lo + f → ∀ i, lo ≤ i → i ≤ 60000 → ∀ w, PInv w0 w br A c L i → Calls Try.prog 17 #[.pointer (some ⟨br, 0, none⟩)] w (TreeR w.heap.size w0 w br A c L (bodyF g (f + 1) L i)) := by
 intro f
 induction f with
 | zero =>
   intro lo hlo i hi hi2 w hw
   exact bodyG_any (bd := bodyF g 0) ht hg (g2_bodyF g 0) (lo := lo) (fun j hj hl => by omega) i hi hi2 w hw
 | succ f ih =>
   intro lo hlo i hi hi2 w hw
   have hlen := ht.toks.len
   exact bodyG_any (bd := bodyF g (f + 1)) ht hg (g2_bodyF g (f + 1)) (lo := lo) (fun j hj hl w hw => ih (lo + 1) (by omega) j hj (by omega) w hw) i hi hi2 w hw
theorem catch_idle (p q r : Addr) (w : World) :
 CallsD Try.prog 16 #[.pointer (some p), .pointer (some q), .pointer (some r)] .returning w fun e u' w' => e = .returned (.tuple #[]) ∧ u' = .returning ∧ w' = w := by
 refine callsD_of_wpS Try.func16 rfl fun c₀ cs hu => ?_
 apply wpS_seq
 apply wpS_region
 simp [wpOpsS, go_sem, recoverD, hu, Try.ntmps16, Exit.thenS]
 apply wpS_seq
 apply wpS_region
 simp [wpOpsS, go_sem, Exit.thenS, Array.replicate]
 refine wpS_cond (t := false) (by simp [Act.eval, Array.replicate]) ?_
 simp only [Bool.false_eq_true, if_false]
 refine wpS_of_wp (wp_skip ?_)
 cases c₀
 simp_all [bodyPostS, results, Try.results16]
theorem run_bad (k : Int) (w : World) : (Instr.typeAssert (.iface 46 (.int .i64 k)) 20 46 false).run Try.prog w = .ok (.int .i64 k) w := by
 kernel_rfl
theorem catch_bad (b1 b2 b3 : Nat) (k : Nat) (w : World)
 (h1 : w.cell? ⟨b1, 0, none⟩ = some (.pointer none)) (h2 : w.cell? ⟨b2, 0, none⟩ = some (.int .i64 0)) (h3 : w.cell? ⟨b3, 0, none⟩ = some (.int .i64 0)) (f1 : w.frozen? ⟨b1, 0, none⟩ = false) (f2 : w.frozen? ⟨b2, 0, none⟩ = false) (f3 : w.frozen? ⟨b3, 0, none⟩ = false)
 (n12 : b1 < b2) (n23 : b2 < b3) :
 CallsD Try.prog 16 #[.pointer (some ⟨b1, 0, none⟩), .pointer (some ⟨b2, 0, none⟩), .pointer (some ⟨b3, 0, none⟩)] (.panicking [{ v := .iface 46 (.int .i64 k), recovered := false }]) w fun e u' w' =>
  e = .returned (.tuple #[]) ∧ u' = .panicking [{ v := .iface 46 (.int .i64 k), recovered := true }] ∧ w' = (((w.setCell ⟨b1, 0, none⟩ (.pointer none)).setCell ⟨b2, 0, none⟩ (.int .i64 k)).setCell ⟨b3, 0, none⟩ (.int .i64 60)).drew := by
 refine callsD_of_wpS Try.func16 rfl fun c₀ cs hu => ?_
 apply wpS_seq
 apply wpS_region
 simp [wpOpsS, go_sem, recoverD, hu, Try.ntmps16, Exit.thenS]
 apply wpS_seq
 apply wpS_region
 simp [wpOpsS, go_sem, Exit.thenS, Array.replicate]
 refine wpS_cond (t := true) (by simp [Act.eval, Array.replicate]) ?_
 simp only [if_true]
 refine wpS_of_wp ?_
 have hne12 : ¬ b1 = b2 := by omega
 have hne13 : ¬ b1 = b3 := by omega
 have hne23 : ¬ b2 = b3 := by omega
 have hne21 : ¬ b2 = b1 := by omega
 have hne31 : ¬ b3 = b1 := by omega
 have hne32 : ¬ b3 = b2 := by omega
 have hta := run_bad k
 go_region
 all_goals
  simp [bodyPostS, results, Try.results16]
theorem par_world (w : World) (A : Option Addr) (c : Nat) (L : List PT) (i : Nat) : Below w.heap.size w ((((w.alloc (.cells #[.pointer none] 26)).alloc (.cells #[.int .i64 0] 3)).alloc (.cells #[.int .i64 0] 27)).alloc (.cells #[.slice A L.length c, .int .i64 i] 49)) ∧ ((((w.alloc (.cells #[.pointer none] 26)).alloc (.cells #[.int .i64 0] 3)).alloc (.cells #[.int .i64 0] 27)).alloc (.cells #[.slice A L.length c, .int .i64 i] 49)).heap.size = w.heap.size + 4 ∧ Blk ((((w.alloc (.cells #[.pointer none] 26)).alloc (.cells #[.int .i64 0] 3)).alloc (.cells #[.int .i64 0] 27)).alloc (.cells #[.slice A L.length c, .int .i64 i] 49)) w.heap.size 26 #[.pointer none] ∧ Blk ((((w.alloc (.cells #[.pointer none] 26)).alloc (.cells #[.int .i64 0] 3)).alloc (.cells #[.int .i64 0] 27)).alloc (.cells #[.slice A L.length c, .int .i64 i] 49)) (w.heap.size + 1) 3 #[.int .i64 0] ∧ Blk ((((w.alloc (.cells #[.pointer none] 26)).alloc (.cells #[.int .i64 0] 3)).alloc (.cells #[.int .i64 0] 27)).alloc (.cells #[.slice A L.length c, .int .i64 i] 49)) (w.heap.size + 1 + 1) 27 #[.int .i64 0] ∧ Blk ((((w.alloc (.cells #[.pointer none] 26)).alloc (.cells #[.int .i64 0] 3)).alloc (.cells #[.int .i64 0] 27)).alloc (.cells #[.slice A L.length c, .int .i64 i] 49)) (w.heap.size + 1 + 1 + 1) 49 #[.slice A L.length c, .int .i64 i] := by
 have hn : ∀ (W : World) (o : Obj) (m : Nat), W.heap.size = m → (W.alloc o).heap[m]? = some o := fun W o m h => by rw [← h]; exact heap_alloc_new W o
 have ho : ∀ (W : World) (o o' : Obj) (m : Nat), W.heap[m]? = some o' → (W.alloc o).heap[m]? = some o' := fun W o o' m h => (Below.heap_alloc W o m (obj_lt h)).trans h
 have ha : ∀ {W : World} (h : Below w.heap.size w W) (o : Obj), Below w.heap.size w (W.alloc o) := fun h o => h.alloc h.size o
 refine ⟨ha (ha (ha (ha (Below.refl _ _) _) _) _) _, by simp [World.size_alloc], ?_, ?_, ?_, ?_⟩
 ·exact ho _ _ _ _ (ho _ _ _ _ (ho _ _ _ _ (hn _ _ _ rfl)))
 ·exact ho _ _ _ _ (ho _ _ _ _ (hn _ _ _ (by simp [World.size_alloc])))
 ·exact ho _ _ _ _ (hn _ _ _ (by simp [World.size_alloc]))
 ·exact hn _ _ _ (by simp [World.size_alloc])
set_option maxRecDepth 100000 in set_option maxHeartbeats 6400000 in
theorem Body_any {w : World} {A : Option Addr} {L : List PT} (h : RowAt w A L) (c : Nat) {i : Nat} (hi : i ≤ 60000) {g : Nat} (hg : L.length < g) :
 Calls Try.prog 10 #[.slice A L.length c, .int .i64 i] w (ParR w (bodyF g (g + 1) L i)) := by
 have HF := qh (fun (w0 : World) (br c : Nat) (A : Option Addr) (L : List PT) (ht : TkS w0 br A L) (hg : L.length < g) (i : Nat) (hi : i ≤ 60000) (w : World) (hw : PInv w0 w br A c L i) => body_any ht hg g 0 (by omega) i (Nat.zero_le _) hi w hw)
 have hL := h.len
 have hA := h.reads
 have hlow := h.low
 clear h
 have hmf : ∀ (fn : Fn) (first cap : Array Value) (w : World), (Instr.makeFunc fn first cap).run Try.prog w = .ok (.func fn first cap) w := fun _ _ _ _ => rfl
 have x0 : (0 : Int) ≤ (i : Int) := by omega
 have x1 : ¬ (i : Int) < 0 := by omega
 have HA := qh hA
 clear hA
 go_enter_defers Try.func10, Try.ntmps10
 go_wp2_with fail
 obtain ⟨hb0, hs0, k1, k2, k3, kr⟩ := par_world w A c L i
 generalize ((((w.alloc (.cells #[.pointer none] 26)).alloc (.cells #[.int .i64 0] 3)).alloc (.cells #[.int .i64 0] 27)).alloc (.cells #[.slice A L.length c, .int .i64 i] 49)) = w0 at *
 have HT : Hid (TkS w0 (w.heap.size + 1 + 1 + 1) A L) := qh ⟨⟨(HA.out.below hb0).more hb0.size, by omega, fun ad e => by have := hlow ad e; omega, hL⟩, fun ad e => by have := hlow ad e; have := hb0.size; omega⟩
 have H := qh (PG.start (⟨kr, ⟨rfl, rfl, rfl, Nat.le_refl _, fun _ _ _ => rfl⟩⟩ : PInv w0 w0 (w.heap.size + 1 + 1 + 1) A c L i))
 have d1 := HF.out w0 _ c A L HT.out hg i hi w0 H.out.1
 have hbz : w.heap.size + 1 + 1 + 1 < w0.heap.size := by omega
 clear kr
 cases hx : bodyF g (g + 1) L i with
 | error k =>
   rw [hx] at d1
   have D1 := qh d1
   have K := qh (And.intro k1 (And.intro k2 k3))
   have HB0 := qh hb0
   clear d1 k1 k2 k3 hb0
   ((with_reducible refine D1.out.mono ?_); rintro e wv ⟨rfl, hg⟩)
   have g1 := K.out.1.grown hg (by intro e; injection e with e; omega)
   have g2 := K.out.2.1.grown hg (by intro e; injection e with e; omega)
   have g3 := K.out.2.2.grown hg (by intro e; injection e with e; omega)
   refine leaves_cons (f := 16) (args := #[.pointer (some ⟨w.heap.size, 0, none⟩), .pointer (some ⟨w.heap.size + 1, 0, none⟩), .pointer (some ⟨w.heap.size + 1 + 1, 0, none⟩)]) (by simp) (by simp [go_sem]) ?_
   refine (catch_bad w.heap.size (w.heap.size + 1) (w.heap.size + 1 + 1) k wv (g1.cell 0) (g2.cell 0) (g3.cell 0) (g1.frozen 0) (g2.frozen 0) (g3.frozen 0) (by omega) (by omega)).mono ?_
   rintro e u' w'' ⟨rfl, rfl, rfl⟩
   have z1 := ((((g1.set_ 0 (.pointer none)).far (p := ⟨w.heap.size + 1, 0, none⟩) (show w.heap.size ≠ w.heap.size + 1 by omega) (.int .i64 k)).far (p := ⟨w.heap.size + 1 + 1, 0, none⟩) (show w.heap.size ≠ w.heap.size + 1 + 1 by omega) (.int .i64 60)).drewN 1).cell 0
   have z2 := ((((g2.far (p := ⟨w.heap.size, 0, none⟩) (show w.heap.size + 1 ≠ w.heap.size by omega) (.pointer none)).set_ 0 (.int .i64 k)).far (p := ⟨w.heap.size + 1 + 1, 0, none⟩) (show w.heap.size + 1 ≠ w.heap.size + 1 + 1 by omega) (.int .i64 60)).drewN 1).cell 0
   have z3 := ((((g3.far (p := ⟨w.heap.size, 0, none⟩) (show w.heap.size + 1 + 1 ≠ w.heap.size by omega) (.pointer none)).far (p := ⟨w.heap.size + 1, 0, none⟩) (show w.heap.size + 1 + 1 ≠ w.heap.size + 1 by omega) (.int .i64 k)).set_ 0 (.int .i64 60)).drewN 1).cell 0
   have hbv : Below w.heap.size w wv := Lx.below_grown HB0.out hg (fun k e => by injection e with e; omega) HB0.out.size
   have hbz2 : Below w.heap.size w ((((wv.setCell ⟨w.heap.size, 0, none⟩ (.pointer none)).setCell ⟨w.heap.size + 1, 0, none⟩ (.int .i64 k)).setCell ⟨w.heap.size + 1 + 1, 0, none⟩ (.int .i64 60)).drewN 1) := Lx.below_drewN (((hbv.setCell (Nat.le_refl _) _).setCell (Nat.le_succ _) _).setCell (show w.heap.size ≤ w.heap.size + 1 + 1 by omega) _) 1
   have HBZ := qh hbz2
   clear g1 g2 g3 hg hbv hbz2
   change Leaves _ _ _ _ _ _ ((((wv.setCell ⟨w.heap.size, 0, none⟩ (.pointer none)).setCell ⟨w.heap.size + 1, 0, none⟩ (.int .i64 k)).setCell ⟨w.heap.size + 1 + 1, 0, none⟩ (.int .i64 60)).drewN 1)
   generalize (((wv.setCell ⟨w.heap.size, 0, none⟩ (.pointer none)).setCell ⟨w.heap.size + 1, 0, none⟩ (.int .i64 k)).setCell ⟨w.heap.size + 1 + 1, 0, none⟩ (.int .i64 60)).drewN 1 = z at *
   have z1' : z.cell? ⟨w.heap.size, 0, none⟩ = some (.pointer none) := by simpa using z1
   have z2' : z.cell? ⟨w.heap.size + 1, 0, none⟩ = some (.int .i64 k) := by simpa using z2
   have z3' : z.cell? ⟨w.heap.size + 1 + 1, 0, none⟩ = some (.int .i64 60) := by simpa using z3
   clear z1 z2 z3
   simp [Leaves, settle, results, Try.results10, go_sem, z1', z2', z3']
   exact ⟨rfl, HBZ.out⟩
 | ok r =>
   obtain ⟨x, j⟩ := r
   rw [hx] at d1
   have D1 := qh d1
   have K := qh (And.intro k1 (And.intro k2 k3))
   have HB0 := qh hb0
   clear d1 k1 k2 k3 hb0
   ((with_reducible refine D1.out.mono ?_); rintro e wv ⟨b, rfl, hp, hg, hr⟩)
   have g1 := K.out.1.grown hg (by intro e; injection e with e; omega)
   have g2 := K.out.2.1.grown hg (by intro e; injection e with e; omega)
   have g3 := K.out.2.2.grown hg (by intro e; injection e with e; omega)
   have m1 := g1.cell 0
   have m2 := g2.cell 0
   have m3 := g3.cell 0
   have f1 := g1.frozen 0
   have f2 := g2.frozen 0
   have f3 := g3.frozen 0
   obtain ⟨a1, a2, a3⟩ := hp.at_
   have HR := qh hr
   have HP := qh hp
   have HG := qh hg
   have G := qh (And.intro g1 (And.intro g2 g3))
   simp only [List.getElem?_toArray, List.getElem?_cons_zero] at m1 m2 m3
   clear hp hg hr g1 g2 g3
   go_wp2
   have hq1 := G.out.1.set_ 0 (.pointer (some ⟨b, 0, none⟩))
   have hq2 := G.out.2.1.far (p := ⟨w.heap.size, 0, none⟩) (show w.heap.size + 1 ≠ w.heap.size by omega) (.pointer (some ⟨b, 0, none⟩))
   have hq3 := G.out.2.2.far (p := ⟨w.heap.size, 0, none⟩) (show w.heap.size + 1 + 1 ≠ w.heap.size by omega) (.pointer (some ⟨b, 0, none⟩))
   have hqr := HP.out.row.far (p := ⟨w.heap.size, 0, none⟩) (show w.heap.size + 1 + 1 + 1 ≠ w.heap.size by omega) (.pointer (some ⟨b, 0, none⟩))
   have hbv : Below w.heap.size w (wv.setCell ⟨w.heap.size, 0, none⟩ (.pointer (some ⟨b, 0, none⟩))) := (Lx.below_grown HB0.out HG.out (fun k e => by injection e with e; omega) HB0.out.size).setCell (Nat.le_refl _) _
   have hr2 : RepS (fun y => w.heap.size + 4 ≤ y) (wv.setCell ⟨w.heap.size, 0, none⟩ (.pointer (some ⟨b, 0, none⟩))) (.node x.1 x.2 .no) [.pointer (some ⟨b, 0, none⟩)] := (HR.out.more (S' := fun y => w.heap.size + 4 ≤ y) fun y hy _ => by omega).keep (by rw [World.size_setCell]; exact Nat.le_refl _) (fun y hy _ => Below.heap_setCell _ _ _ _ (show y ≠ w.heap.size by omega)) (fun y h _ => h)
   have m1 := hq1.cell 0
   have m2 := hq2.cell 0
   have m3 := hq3.cell 0
   have f1 := hq1.frozen 0
   have f2 := hq2.frozen 0
   have f3 := hq3.frozen 0
   have mr := hqr.cell 1
   have Q := qh (And.intro hq1 (And.intro hq2 (And.intro hq3 (And.intro hbv hr2))))
   clear hq1 hq2 hq3 hqr hbv hr2 a1 a2 a3 G HP HG HR
   generalize wv.setCell ⟨w.heap.size, 0, none⟩ (.pointer (some ⟨b, 0, none⟩)) = wz at *
   simp only [List.getElem?_toArray, List.getElem?_cons_zero, List.getElem?_cons_succ] at m1 m2 m3 mr
   go_region
   all_goals
    go_wp2
    obtain ⟨hq1, hq2, hq3, hbv, hr2⟩ := Q.out
    refine leaves_cons (f := 16) (args := #[.pointer (some ⟨w.heap.size, 0, none⟩), .pointer (some ⟨w.heap.size + 1, 0, none⟩), .pointer (some ⟨w.heap.size + 1 + 1, 0, none⟩)]) (by simp) (by simp [go_sem]) ?_
    refine (catch_idle ⟨w.heap.size, 0, none⟩ ⟨w.heap.size + 1, 0, none⟩ ⟨w.heap.size + 1 + 1, 0, none⟩ _).mono ?_
    rintro e u' w'' ⟨rfl, rfl, rfl⟩
    have z1 := ((((hq1.set_ 0 (.pointer (some ⟨b, 0, none⟩))).far (p := ⟨w.heap.size + 1, 0, none⟩) (show w.heap.size ≠ w.heap.size + 1 by omega) (.int .i64 j)).far (p := ⟨w.heap.size + 1 + 1, 0, none⟩) (show w.heap.size ≠ w.heap.size + 1 + 1 by omega) (.int .i64 0)).drewN 1).cell 0
    have z2 := ((((hq2.far (p := ⟨w.heap.size, 0, none⟩) (show w.heap.size + 1 ≠ w.heap.size by omega) (.pointer (some ⟨b, 0, none⟩))).set_ 0 (.int .i64 j)).far (p := ⟨w.heap.size + 1 + 1, 0, none⟩) (show w.heap.size + 1 ≠ w.heap.size + 1 + 1 by omega) (.int .i64 0)).drewN 1).cell 0
    have z3 := ((((hq3.far (p := ⟨w.heap.size, 0, none⟩) (show w.heap.size + 1 + 1 ≠ w.heap.size by omega) (.pointer (some ⟨b, 0, none⟩))).far (p := ⟨w.heap.size + 1, 0, none⟩) (show w.heap.size + 1 + 1 ≠ w.heap.size + 1 by omega) (.int .i64 j)).set_ 0 (.int .i64 0)).drewN 1).cell 0
    have HBZ := qh (Lx.below_drewN (((hbv.setCell (p := ⟨w.heap.size, 0, none⟩) (Nat.le_refl _) (.pointer (some ⟨b, 0, none⟩))).setCell (p := ⟨w.heap.size + 1, 0, none⟩) (Nat.le_succ _) (.int .i64 j)).setCell (p := ⟨w.heap.size + 1 + 1, 0, none⟩) (show w.heap.size ≤ w.heap.size + 1 + 1 by omega) (.int .i64 0)) 1)
    have HRZ : Hid (RepS (fun y => w.heap.size ≤ y) ((((wz.setCell ⟨w.heap.size, 0, none⟩ (.pointer (some ⟨b, 0, none⟩))).setCell ⟨w.heap.size + 1, 0, none⟩ (.int .i64 j)).setCell ⟨w.heap.size + 1 + 1, 0, none⟩ (.int .i64 0)).drewN 1) (.node x.1 x.2 .no) [.pointer (some ⟨b, 0, none⟩)]) := qh (rep_set3 hr2 _ _ _ _ _ _ (fun y hy => by simp only; omega) (fun y hy => by simp only; omega) (fun y hy => by simp only; omega) (fun y hy => by omega))
    clear hq1 hq2 hq3 hbv hr2 Q m1 m2 m3 mr f1 f2 f3
    change Leaves _ _ _ _ _ _ ((((wz.setCell ⟨w.heap.size, 0, none⟩ (.pointer (some ⟨b, 0, none⟩))).setCell ⟨w.heap.size + 1, 0, none⟩ (.int .i64 j)).setCell ⟨w.heap.size + 1 + 1, 0, none⟩ (.int .i64 0)).drewN 1)
    generalize (((wz.setCell ⟨w.heap.size, 0, none⟩ (.pointer (some ⟨b, 0, none⟩))).setCell ⟨w.heap.size + 1, 0, none⟩ (.int .i64 j)).setCell ⟨w.heap.size + 1 + 1, 0, none⟩ (.int .i64 0)).drewN 1 = z at *
    have z1' : z.cell? ⟨w.heap.size, 0, none⟩ = some (.pointer (some ⟨b, 0, none⟩)) := by simpa using z1
    have z2' : z.cell? ⟨w.heap.size + 1, 0, none⟩ = some (.int .i64 j) := by simpa using z2
    have z3' : z.cell? ⟨w.heap.size + 1 + 1, 0, none⟩ = some (.int .i64 0) := by simpa using z3
    clear z1 z2 z3
    rw [hx]
    simp [Leaves, settle, results, Try.results10, go_sem, z1', z2', z3']
    exact ⟨b, rfl, HRZ.out, HBZ.out⟩
set_option maxRecDepth 100000 in set_option maxHeartbeats 6400000 in
theorem Body_neg (A : Option Addr) (m c : Nat) (i : Int) (hi : i < 0) (w : World) :
 Calls Try.prog 10 #[.slice A m c, .int .i64 i] w (ParR w (.error 0)) := by
 go_enter_defers Try.func10, Try.ntmps10
 go_wp2
 simp [bodyPostD, Leaves, settle, results, Try.results10, go_sem]
 exact ⟨rfl, (((Below.refl _ _).alloc (Nat.le_refl _) _).alloc (by simp [World.size_alloc]) _).alloc (by simp [World.size_alloc]; omega) _⟩
end Go.Proofs.Ytecmjhohniipoaa.St
end

section
namespace Go.Proofs.Ytecmjhohniipoaa.St
open Go.RowKit
open Tr (Nd Fo RepS RepN Rep cellsN)
open Lx (Tk noTk Blk run_store_complexL TokAt scanL flat scanEnd at_ flat_len)
open Fl
open Ex
attribute [local go_sem] run_store_complexL run_field1 run_field3
theorem heavy_any (s : ByteArray) (w : World) : Calls Try.prog 7 #[.string s] w fun e w' => e = .returned (.bool (decide (2048 < s.size))) ∧ w = w' := by
 go_enter Try.func7, Try.ntmps7
 go_wp2
 go_ret
 exact ⟨ret_bool (by rw [Bool.eq_iff_iff]; simp; omega), rfl⟩
def bP (L0 L : List PT) : Except Nat (T1 × Nat) := bodyF (L0.length + 1) (L0.length + 2) L 0
theorem body_full {w : World} {A : Option Addr} {L : List PT} (h : RowAt w A L) (c : Nat) : Calls Try.prog 10 #[.slice A L.length c, .int .i64 0] w (ParR w (bP L L)) := Body_any h c (i := 0) (by omega) (g := L.length + 1) (by omega)
abbrev wt1 : ByteArray := ⟨#[97, 32, 58, 61, 32, 49, 59, 59, 32, 102, 40, 120, 41]⟩
abbrev wt2 : ByteArray := ⟨#[73, 70, 32, 97, 32, 84, 72, 69, 78]⟩
def twoIs (r : Except Nat (T1 × Nat)) (j : Nat) : Bool := match r with
 | .ok ((_, .node _ _ (.node _ _ .no)), j') => decide (j' = j)
 | _ => false
def errIs7 (r : Except Nat (T1 × Nat)) (k : Nat) : Bool := match r with
 | .ok _ => false
 | .error k' => decide (k' = k)
theorem wrk1 : twoIs (bP (rowP wt1.data.toList) (rowP wt1.data.toList)) 9 = true := by decide +kernel
theorem wrk2 : errIs7 (bP (rowP wt2.data.toList) (rowP wt2.data.toList)) 3 = true := by decide +kernel
theorem twoIs_ok {r : Except Nat (T1 × Nat)} {j : Nat} (h : twoIs r j = true) : ∃ (d d0 : Nd) (k0 : Fo) (d1 : Nd) (k1 : Fo), r = .ok ((d, .node d0 k0 (.node d1 k1 .no)), j) := by
 unfold twoIs at h
 split at h
 ·simp only [decide_eq_true_eq] at h
  subst h
  exact ⟨_, _, _, _, _, rfl⟩
 ·cases h
theorem errIs7_ok {r : Except Nat (T1 × Nat)} {k : Nat} (h : errIs7 r k = true) : r = .error k := by
 unfold errIs7 at h
 cases r with
 | error k' => simp only [decide_eq_true_eq] at h; rw [h]
 | ok x => cases h
theorem two_len {S : Nat → Prop} {w : World} {d d0 d1 : Nd} {k0 k1 : Fo} {b : Nat} (h : RepS S w (.node d (.node d0 k0 (.node d1 k1 .no)) .no) [.pointer (some ⟨b, 0, none⟩)]) : ∃ A c, w.cell? ⟨b, 4, none⟩ = some (.slice A 2 c) ∧ b < w.heap.size := by
 unfold RepS at h
 obtain ⟨b', A, c, ks, vs', e, hS, ⟨h0, h1, h2, h3, h4⟩, _, hR, hk, _⟩ := h
 injection e with e _
 injection e with e
 injection e with e
 injection e with e
 subst e
 unfold RepS at hk
 obtain ⟨_, _, _, _, vs1, rfl, _, _, _, _, _, hk2⟩ := hk
 unfold RepS at hk2
 obtain ⟨_, _, _, _, vs2, rfl, _, _, _, _, _, hk3⟩ := hk2
 unfold RepS at hk3
 subst hk3
 exact ⟨A, c, h4, Tr.cell_lt h0⟩
theorem row_txt (s : ByteArray) (hs : s.size ≤ 9223372036854775800) (L : List PT) (hL : rowP s.data.toList = L) (w : World) : Calls Try.prog 9 #[.string s] w (RowR w L) := hL ▸ row_any s hs w
set_option maxRecDepth 100000 in set_option maxHeartbeats 6400000 in
theorem works_any (w : World) : Calls Try.prog 8 #[] w fun e w' => e = .returned (.bool true) ∧ Below w.heap.size w w' := by
 obtain ⟨d, d0, k0, d1, k1, r1⟩ := twoIs_ok wrk1
 have r2 := errIs7_ok wrk2
 obtain ⟨L1, l1⟩ : ∃ L, rowP wt1.data.toList = L := ⟨_, rfl⟩
 obtain ⟨L2, l2⟩ : ∃ L, rowP wt2.data.toList = L := ⟨_, rfl⟩
 rw [l1] at r1
 rw [l2] at r2
 have Q1 := qh l1
 have Q2 := qh l2
 have R1 := qh r1
 have R2 := qh r2
 clear r1 r2 l1 l2
 have D1 := qh (row_txt wt1 (by decide) L1 Q1.out w)
 go_enter Try.func8, Try.ntmps8
 go_wp2_with fail
 ((with_reducible refine D1.out.mono ?_); rintro e w1 ⟨A1, c1, rfl, _, ha, hb⟩)
 have HB := qh hb
 have D2 := body_full ha c1
 rw [R1.out] at D2
 have D2 := qh D2
 clear ha hb D1
 go_wp2_with fail
 ((with_reducible refine D2.out.mono ?_); rintro e w2 ⟨b1, rfl, hr, hb⟩)
 have HB := qh (HB.out.trans (hb.mono HB.out.size))
 obtain ⟨A5, c5, g1, g2⟩ := two_len hr
 have G := qh (And.intro g1 g2)
 clear hr hb D2 g1 g2
 have D1 := qh (row_txt wt2 (by decide) L2 Q2.out w2)
 go_wp2_with fail
 ((with_reducible refine D1.out.mono ?_); rintro e w3 ⟨A2, c2, rfl, _, ha, hb⟩)
 have HB := qh (HB.out.trans (hb.mono HB.out.size))
 have HZ := qh hb
 have D2 := body_full ha c2
 rw [R2.out] at D2
 have D2 := qh D2
 clear ha hb D1
 go_wp2_with fail
 ((with_reducible refine D2.out.mono ?_); rintro e w4 ⟨rfl, hb⟩)
 have HB := qh (HB.out.trans (hb.mono HB.out.size))
 have HZ := qh (HZ.out.trans (hb.mono HZ.out.size))
 have h4 : w4.cell? ⟨b1, 4, none⟩ = some (.slice A5 2 c5) := (HZ.out.cell (p := ⟨b1, 4, none⟩) G.out.2).trans G.out.1
 have hb4 : b1 < w4.heap.size := Nat.lt_of_lt_of_le G.out.2 HZ.out.size
 clear hb D2 HZ
 go_wp2
 go_ret
 exact ⟨rfl, HB.out⟩
end Go.Proofs.Ytecmjhohniipoaa.St
end
