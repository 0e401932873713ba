/- A part of the proof: F5, U1, D1. -/
import Derived.Test.YtkemhmfdooghkaaGreatDoorW1
import Derived.Test.YtkemhmfdooghkaaGreatDoorW15
set_option linter.unusedSimpArgs false
set_option linter.unusedVariables false
set_option maxRecDepth 100000
set_option maxHeartbeats 6400000
namespace Go.Proofs.YtkemhmfdooghkaaGreatDoor.Ex
open Tr (Nd Fo)
open Lx (Tk noTk)
def cntT (x : T1) : Nat := (Fo.node x.1 x.2 .no).count
def cntL (l : List T1) : Nat := (forest l).count
theorem cnt_mk (kind : Nat) (p : Nat × Nat) (name : ByteArray) (n : Int) (l : List T1) : cntT (mk kind p name n l) = 1 + cntL l := by simp [cntT, cntL, mk, Fo.count]
theorem cntL_nil : cntL [] = 0 := rfl
theorem cntL_cons (x : T1) (l : List T1) : cntL (x :: l) = cntT x + cntL l := by simp [cntT, cntL, forest, Fo.count]
theorem cntL_snoc (y : T1) : ∀ l : List T1, cntL (l ++ [y]) = cntL l + cntT y
 | [] => by simp [cntL_cons, cntL_nil]
 | x :: l => by rw [List.cons_append, cntL_cons, cntL_cons, cntL_snoc y l]; omega
def Grow {α : Type} (c : α → Nat) (k : Nat) (p : Par α) : Prop := ∀ L i a j, p L i = .ok (a, j) → c a + i ≤ k + j
section
variable {α β : Type} {c : α → Nat} {c' : β → Nat} {k k' : Nat}
theorem Grow.more {p : Par α} (h : Grow c k p) (hk : k ≤ k') : Grow c k' p := fun L i a j e => by have := h L i a j e; omega
theorem grow_ret {a : α} (h : c a ≤ k) : Grow c k (retP a) := fun L i b j e => by cases e; omega
theorem grow_fail : Grow c k (failP (α := α)) := fun L i b j e => by cases e
theorem grow_bind {p : Par α} {q : α → Par β} {m : Nat} (hp : Grow c k p) (hq : ∀ a, Grow c' (c a + m) (q a)) (hk : k + m ≤ k') : Grow c' k' (bindP p q) := by
 intro L i b j e
 unfold bindP at e
 cases e1 : p L i with
 | error x => rw [e1] at e; cases e
 | ok r =>
   obtain ⟨a, j1⟩ := r
   rw [e1] at e
   have h1 := hp L i a j1 e1
   have h2 := hq a L j1 b j e
   omega
theorem grow_tok {t : PT → Bool} {A : PT → Par α} {B : Par α} (hA : ∀ x, Grow c (k + 1) (A x)) (hB : Grow c k B) : Grow c k (tokP t A B) := by
 intro L i a j e
 unfold tokP at e
 split at e
 ·have := hA _ L (i + 1) a j e; omega
 ·exact hB L i a j e
theorem grow_pos {q : PT → Par α} (h : ∀ x, Grow c k (q x)) : Grow c k (posP q) := fun L i a j e => h _ L i a j e
end
theorem grow_name : Grow (fun _ => 1) 0 nameP := by
 rw [nameP_eq]
 exact grow_tok (fun x => grow_ret (Nat.le_refl _)) grow_fail
theorem grow_needF {α : Type} {c : α → Nat} {k : Nat} (s : ByteArray) {p : Par α} (h : Grow c k p) : Grow c k (needF s p) := grow_tok (fun _ => h.more (Nat.le_succ _)) grow_fail
theorem cnt_1 (kind : Nat) (p : Nat × Nat) (name : ByteArray) (n : Int) (x : T1) : cntT (mk kind p name n [x]) = 1 + cntT x := by rw [cnt_mk, cntL_cons, cntL_nil]; rfl
theorem cnt_2 (kind : Nat) (p : Nat × Nat) (name : ByteArray) (n : Int) (x y : T1) : cntT (mk kind p name n [x, y]) = 1 + cntT x + cntT y := by rw [cnt_mk, cntL_cons, cntL_cons, cntL_nil]; omega
theorem grow_dotsF : ∀ (f : Nat) (x : T1), Grow cntT (cntT x) (dotsF f x)
 | 0, x => grow_ret (Nat.le_refl _)
 | f + 1, x => grow_tok (fun t => grow_bind (m := cntT x) grow_name (fun a => (grow_dotsF f _).more (by rw [cnt_1]; exact Nat.le_refl _)) (by omega)) (grow_ret (Nat.le_refl _))
theorem grow_qualF (g : Nat) : Grow cntT 0 (qualF g) := grow_bind (m := 0) grow_name (fun a => (grow_dotsF g _).more (by rw [cnt_mk, cntL_nil]; exact Nat.le_refl _)) (by omega)
section
variable {e : Par T1} (ge : Grow cntT 0 e)
include ge
theorem grow_commasF : ∀ (f : Nat) (x : T1), Grow cntT (cntT x) (commasF e f x)
 | 0, x => grow_ret (Nat.le_refl _)
 | f + 1, x => grow_tok (fun t => grow_bind (m := 1 + cntT x) ge (fun a => (grow_commasF f _).more (by rw [cnt_2]; omega)) (by omega)) (grow_ret (Nat.le_refl _))
theorem grow_desF (g : Nat) : ∀ (f : Nat) (x : T1), Grow cntT (cntT x) (desF e g f x)
 | 0, x => grow_ret (Nat.le_refl _)
 | f + 1, x => grow_tok (fun t => grow_bind (m := cntT x) grow_name (fun a => (grow_desF g f _).more (by rw [cnt_1]; exact Nat.le_refl _)) (by omega))
    (grow_tok (fun t => (grow_desF g f _).more (by rw [cnt_1]; omega))
    (grow_tok (fun t => grow_bind (m := 1 + cntT x) ge (fun a => grow_bind (m := 0) (grow_commasF ge g _) (fun z => grow_needF _ (grow_desF g f z)) (by rw [cnt_2]; omega)) (by omega)) (grow_ret (Nat.le_refl _))))
theorem grow_designF (g : Nat) : Grow cntT 0 (designF e g) := grow_bind (m := 0) (grow_qualF g) (fun x => (grow_desF ge g g x).more (by omega)) (by omega)
theorem grow_elemF : Grow cntT 0 (elemF e) := grow_pos fun t => grow_bind (m := 0) ge (fun x => grow_tok (fun _ => grow_bind (m := 1 + cntT x) ge (fun y => grow_ret (by rw [cnt_2]; omega)) (by omega)) (grow_ret (by omega))) (by omega)
theorem grow_manyRF : ∀ (f : Nat) (l : List T1), Grow cntL (cntL l) (manyRF e f l)
 | 0, x => grow_ret (Nat.le_refl _)
 | f + 1, l => grow_tok (fun t => grow_bind (m := cntL l) ge (fun a => (grow_manyRF f _).more (by rw [cntL_snoc]; omega)) (by omega)) (grow_ret (Nat.le_refl _))
theorem grow_manyF (g : Nat) : Grow cntL 0 (manyF e g) := grow_bind (m := 0) ge (fun a => (grow_manyRF ge g [a]).more (by rw [cntL_cons, cntL_nil]; omega)) (by omega)
theorem grow_betweenF (g : Nat) (close : ByteArray) : Grow cntL 0 (betweenF e g close) :=
 grow_tok (fun _ => grow_ret (by rw [cntL_nil]; omega)) (grow_bind (m := 0) (grow_manyF ge g) (fun l => grow_needF _ (grow_ret (by omega))) (by omega))
end
theorem grow_bins {su : Par T1} (gs : Grow cntT 0 su) (k : Nat) : ∀ (f : Nat) (x : T1), Grow cntT (cntT x) (binsF su k f x)
 | 0, x => grow_ret (Nat.le_refl _)
 | f + 1, x => grow_tok (fun t => grow_bind (m := 1 + cntT x) gs (fun a => by
    split
    ·exact grow_ret (by rw [cnt_2]; omega)
    ·exact (grow_bins gs k f _).more (by rw [cnt_2]; omega)) (by omega)) (grow_ret (Nat.le_refl _))
theorem grow_lev {fac : Par T1} (gf : Grow cntT 0 fac) (g : Nat) : ∀ d, Grow cntT 0 (levF fac g d)
 | 0 => gf
 | d + 1 => grow_tok (fun t => grow_bind (m := 1) (grow_lev gf g d) (fun x => (grow_bins (grow_lev gf g d) _ g _).more (by rw [cnt_1]; omega)) (by omega))
    (grow_bind (m := 0) (grow_lev gf g d) (fun x => (grow_bins (grow_lev gf g d) _ g _).more (by omega)) (by omega))
theorem cnt_zero : cntT zeroT = 1 := rfl
theorem grow_fact (g : Nat) : ∀ f, Grow cntT 0 (factF g f)
 | 0 => grow_fail
 | f + 1 => by
   have h := grow_fact g f
   have e := grow_lev h g 3
   have em := grow_elemF e
   refine grow_tok (fun t => grow_ret (by rw [cnt_mk, cntL_nil]; omega)) (grow_tok (fun _ => grow_bind (m := 0) e (fun x => grow_needF _ (grow_ret (by omega))) (by omega))
    (grow_tok (fun t => grow_bind (m := 1) h (fun x => grow_ret (by rw [cnt_1]; omega)) (by omega))
    (grow_tok (fun t => ?_) (grow_pos fun t0 => grow_bind (m := 0) (grow_designF e g) (fun x => ?_) (by omega)))))
   ·intro L i a j hh
    unfold bindP at hh
    cases e1 : betweenF (elemF (levF (factF g f) g 3)) g sRuc L i with
    | error k => rw [e1] at hh; cases hh
    | ok r =>
      obtain ⟨l, j1⟩ := r
      rw [e1] at hh
      cases hh
      have h1 := grow_betweenF em g sRuc L i l j e1
      rw [cnt_mk, cntL_cons, cnt_zero]
      have h2 : i + 1 ≤ j := by
       by_cases hT : tT sRuc (tk L i) = true
       ·unfold betweenF tokP at e1
        rw [if_pos hT] at e1
        cases e1
        omega
       ·exact strict_betweenF (good_elemF (good_levF g (fact_gs g f).1 3) (strict_levF g (fact_gs g f).1 (fact_gs g f).2 3)) (strict_elemF (good_levF g (fact_gs g f).1 3) (strict_levF g (fact_gs g f).1 (fact_gs g f).2 3)) g sRuc L i l j e1
      have h3 : cntL l + i + 1 ≤ j := by
       by_cases hT : tT sRuc (tk L i) = true
       ·unfold betweenF tokP at e1
        rw [if_pos hT] at e1
        cases e1
        rw [cntL_nil]
        omega
       ·unfold betweenF tokP at e1
        rw [if_neg hT] at e1
        unfold bindP at e1
        cases e2 : manyF (elemF (levF (factF g f) g 3)) g L i with
        | error k => rw [e2] at e1; cases e1
        | ok r =>
          obtain ⟨l2, j2⟩ := r
          rw [e2] at e1
          have h4 := grow_manyF em g L i l2 j2 e2
          dsimp only at e1
          unfold needF tokP at e1
          split at e1
          ·cases e1; omega
          ·cases e1
      omega
   ·exact grow_tok (fun _ => grow_bind (m := 1 + cntT x) (grow_betweenF em g _) (fun l => grow_ret (by rw [cnt_mk, cntL_cons]; omega)) (by omega))
     (grow_tok (fun tj => grow_bind (m := 1 + cntT x) (grow_betweenF e g _) (fun l => grow_ret (by rw [cnt_mk, cntL_cons]; omega)) (by omega)) (grow_ret (by omega)))
end Go.Proofs.YtkemhmfdooghkaaGreatDoor.Ex
namespace Go.Proofs.YtkemhmfdooghkaaGreatDoor.St
open Go.RowKit
open Tr (Nd Fo)
open Lx (Tk noTk)
open Ex
def Lock2 {α : Type} (m : Nat) (r r' : Except Nat (α × Nat)) : Prop :=
 (r' = r ∧ (match r with | .ok (_, j) => j ≤ m | .error k => k < m)) ∨ (posE r' = m ∧ m ≤ posE r)
structure Good2 {α : Type} (p : Par α) : Prop where
 mono : ∀ L i, i ≤ posE (p L i)
 end_ : ∀ L i, L.length ≤ i → posE (p L i) = i
 lock : ∀ L m i, i ≤ m → m ≤ L.length → Lock2 m (p L i) (p (L.take m) i)
section
variable {α β : Type}
theorem g2_of {p : Par α} (h : Ex.Good p) : Good2 p := ⟨h.mono, h.end_, fun L m i hi hm => by
 rcases h.lock L m i hi hm with h1 | ⟨h1, h2⟩
 ·exact .inl h1
 ·refine .inr ⟨h1, ?_⟩
  cases e : p L i with
  | error k => rw [e] at h2; exact h2
  | ok r => obtain ⟨a, j⟩ := r; rw [e] at h2; exact Nat.le_of_lt h2⟩
theorem g2_ret (a : α) : Good2 (retP a) := g2_of (good_ret a)
theorem g2_fail : Good2 (failP (α := α)) := g2_of good_fail
theorem g2_end {p : Par α} (h : Good2 p) {L : List PT} {m : Nat} (hm : m ≤ L.length) : posE (p (L.take m) m) = m := h.end_ _ _ (by rw [Ex.take_len hm]; exact Nat.le_refl _)
theorem g2_bind {p : Par α} {q : α → Par β} (hp : Good2 p) (hq : ∀ a, Good2 (q a)) : Good2 (bindP p q) := by
 have hmono : ∀ L i, posE (p L i) ≤ posE (bindP p q L i) := by
  intro L i
  unfold bindP
  cases e : p L i with
  | error k => exact Nat.le_refl _
  | ok r => obtain ⟨a, j⟩ := r; exact (hq a).mono L j
 refine ⟨fun L i => Nat.le_trans (hp.mono L i) (hmono L i), fun L i h => ?_, fun L m i him hm => ?_⟩
 ·have h1 := hp.end_ L i h
  unfold bindP
  cases e : p L i with
  | error k => rw [e] at h1; exact h1
  | ok r =>
    obtain ⟨a, j⟩ := r
    rw [e] at h1
    have h1 : j = i := h1
    subst h1
    exact (hq a).end_ L j h
 ·have hM := hmono L i
  rcases hp.lock L m i him hm with ⟨h1, h2⟩ | ⟨h1, h2⟩
  ·cases e : p L i with
   | error k =>
     rw [e] at h1 h2
     refine .inl ⟨by unfold bindP; rw [h1, e], ?_⟩
     unfold bindP
     rw [e]
     exact h2
   | ok r =>
     obtain ⟨a, j⟩ := r
     rw [e] at h1 h2
     have := (hq a).lock L m j h2 hm
     unfold bindP
     rw [h1, e]
     exact this
  ·refine .inr ⟨?_, Nat.le_trans h2 hM⟩
   unfold bindP
   cases e : p (L.take m) i with
   | error k => rw [e] at h1; exact h1
   | ok r =>
     obtain ⟨a, j⟩ := r
     rw [e] at h1
     have h1 : j = m := h1
     subst h1
     exact g2_end (hq a) hm
theorem g2_pos {q : PT → Par α} (hq : ∀ x, Good2 (q x)) : Good2 (posP q) := by
 refine ⟨fun L i => (hq _).mono L i, fun L i h => (hq _).end_ L i h, fun L m i him hm => ?_⟩
 rcases Nat.lt_or_ge i m with h1 | h1
 ·unfold posP
  rw [tk_take h1]
  exact (hq _).lock L m i him hm
 ·have : i = m := by omega
  subst this
  exact .inr ⟨g2_end (hq _) hm, (hq _).mono L i⟩
theorem g2_tok {t : PT → Bool} {A : PT → Par α} {B : Par α} (t0 : t noPT = false) (hA : ∀ x, Good2 (A x)) (hB : Good2 B) : Good2 (tokP t A B) := by
 have hmono : ∀ L i, i ≤ posE (tokP t A B L i) := by
  intro L i
  unfold tokP
  split
  ·exact Nat.le_trans (Nat.le_succ i) ((hA _).mono L (i + 1))
  ·exact hB.mono L i
 have hend : ∀ L i, L.length ≤ i → posE (tokP t A B L i) = i := by
  intro L i h
  unfold tokP
  rw [tk_end h, if_neg (by rw [t0]; simp)]
  exact hB.end_ L i h
 refine ⟨hmono, hend, fun L m i him hm => ?_⟩
 rcases Nat.lt_or_ge i m with h1 | h1
 ·unfold tokP
  rw [tk_take h1]
  split
  ·exact (hA _).lock L m (i + 1) h1 hm
  ·exact hB.lock L m i him hm
 ·have : i = m := by omega
  subst this
  exact .inr ⟨hend _ _ (by rw [Ex.take_len hm]; exact Nat.le_refl _), hmono L i⟩
theorem g2_need {s : ByteArray} {p : Par α} (h : Good2 p) : Good2 (needF s p) := g2_tok (tT_no s) (fun _ => h) g2_fail
theorem g2_le {p : Par α} (h : Good2 p) {L : List PT} {i : Nat} (hi : i ≤ L.length) : posE (p L i) ≤ L.length := by
 have h1 := h.lock L L.length i hi (Nat.le_refl _)
 rw [List.take_length] at h1
 rcases h1 with ⟨_, h1⟩ | ⟨h1, _⟩
 ·cases e : p L i with
  | error j => rw [e] at h1; exact Nat.le_of_lt h1
  | ok x => obtain ⟨x, j⟩ := x; rw [e] at h1; exact h1
 ·exact Nat.le_of_eq h1
theorem g2_max {p : Par α} (h : Good2 p) (L : List PT) (i : Nat) : i ≤ posE (p L i) ∧ (i ≤ L.length → posE (p L i) ≤ L.length) ∧ (L.length ≤ i → posE (p L i) = i) := ⟨h.mono L i, g2_le h, h.end_ L i⟩
end
abbrev sSem : ByteArray := ⟨#[59]⟩
abbrev sAsg : ByteArray := ⟨#[58, 61]⟩
abbrev sCol : ByteArray := ⟨#[58]⟩
abbrev sBar : ByteArray := ⟨#[124]⟩
abbrev sIf : ByteArray := ⟨#[73, 70]⟩
abbrev sThen : ByteArray := ⟨#[84, 72, 69, 78]⟩
abbrev sElsif : ByteArray := ⟨#[69, 76, 83, 73, 70]⟩
abbrev sElse : ByteArray := ⟨#[69, 76, 83, 69]⟩
abbrev sEnd : ByteArray := ⟨#[69, 78, 68]⟩
abbrev sCase : ByteArray := ⟨#[67, 65, 83, 69]⟩
abbrev sOf : ByteArray := ⟨#[79, 70]⟩
abbrev sWhile : ByteArray := ⟨#[87, 72, 73, 76, 69]⟩
abbrev sDo : ByteArray := ⟨#[68, 79]⟩
abbrev sRepeat : ByteArray := ⟨#[82, 69, 80, 69, 65, 84]⟩
abbrev sUntil : ByteArray := ⟨#[85, 78, 84, 73, 76]⟩
abbrev sLoop : ByteArray := ⟨#[76, 79, 79, 80]⟩
abbrev sExit : ByteArray := ⟨#[69, 88, 73, 84]⟩
abbrev sFor : ByteArray := ⟨#[70, 79, 82]⟩
abbrev sTo : ByteArray := ⟨#[84, 79]⟩
abbrev sBy : ByteArray := ⟨#[66, 89]⟩
abbrev sWith : ByteArray := ⟨#[87, 73, 84, 72]⟩
abbrev sReturn : ByteArray := ⟨#[82, 69, 84, 85, 82, 78]⟩
def isWd6 (s : ByteArray) (t : PT) : Bool := decide (t.1.kind = 6) && decide (t.1.text = s)
def isNm (t : PT) : Bool := decide (t.1.kind = 1)
def armOut (t : PT) : Bool := tT sBar t || tT sElse t || tT sEnd t
def retOut (t : PT) : Bool := decide (t.1.kind = 0) || tT sSem t || tT sBar t || tT sEnd t || tT sElse t || tT sElsif t || tT sUntil t
section
variable (g : Nat) (bd : Par T1)
def endS (kind : Nat) (p : Nat × Nat) (name : ByteArray) (l : List T1) : Par T1 := needF sEnd (retP (mk kind p name 0 l))
def ifsF : Nat → List T1 → Par (List T1)
 | 0, _ => failP
 | f + 1, acc => bindP (exprF g) fun c => needF sThen (bindP bd fun b => tokP (tT sElsif) (fun _ => ifsF f (acc ++ [c, b])) (retP (acc ++ [c, b])))
def elseS (kind : Nat) (p : Nat × Nat) (l : List T1) : Par T1 := tokP (tT sElse) (fun _ => bindP bd fun b => endS kind p sNil (l ++ [b])) (endS kind p sNil l)
def ifS (p : Nat × Nat) : Par T1 := bindP (ifsF g bd g []) fun l => elseS bd 62 p l
def armsF : Nat → List T1 → Par (List T1)
 | 0, _ => failP
 | f + 1, acc => posP fun t0 => if armOut t0 = true then tokP (tT sBar) (fun _ => armsF f acc) (retP acc)
   else bindP (labelsF g) fun l => needF sCol (bindP bd fun b => tokP (tT sBar) (fun _ => armsF f (acc ++ [mk 28 t0.2.1 sNil 0 [l, b]])) (retP (acc ++ [mk 28 t0.2.1 sNil 0 [l, b]])))
def caseS (p : Nat × Nat) : Par T1 := bindP (exprF g) fun x => needF sOf (bindP (armsF g bd g [x]) fun l => tokP (tT sElse) (fun t => bindP bd fun b => endS 63 p sNil (l ++ [mk 30 t.2.1 sNil 0 [b]])) (endS 63 p sNil l))
def whileS (p : Nat × Nat) : Par T1 := bindP (exprF g) fun c => needF sDo (bindP bd fun b => endS 64 p sNil [c, b])
def repS (p : Nat × Nat) : Par T1 := bindP bd fun b => needF sUntil (bindP (exprF g) fun c => retP (mk 65 p sNil 0 [b, c]))
def loopS (p : Nat × Nat) : Par T1 := bindP bd fun b => endS 66 p sNil [b]
def exitS (p : Nat × Nat) : Par T1 := retP (mk 67 p sNil 0 [])
def forE (p : Nat × Nat) (v : ByteArray) (a z y : T1) : Par T1 := needF sDo (bindP bd fun b => endS 68 p v [a, z, y, b])
def forS (p : Nat × Nat) : Par T1 := tokP isNm (fun v => needF sAsg (bindP (exprF g) fun a => needF sTo (bindP (exprF g) fun z => tokP (tT sBy) (fun _ => bindP (exprF g) fun y => forE bd p v.1.text a z y) (forE bd p v.1.text a z zeroT)))) failP
def withS (p : Nat × Nat) : Par T1 := bindP (designF (exprF g) g) fun d => needF sDo (bindP bd fun b => endS 69 p sNil [d, b])
def returnS (p : Nat × Nat) : Par T1 := posP fun t => if retOut t = true then retP (mk 70 p sNil 0 []) else bindP (exprF g) fun x => retP (mk 70 p sNil 0 [x])
def plainS : Par T1 := posP fun t0 => bindP (designF (exprF g) g) fun d => posP fun t1 => tokP (tT sAsg) (fun _ => bindP (exprF g) fun y => retP (mk 60 t1.2.1 sNil 0 [d, y]))
 (tokP (tT sPar) (fun _ => bindP (betweenF (exprF g) g sRap) fun l => retP (mk 61 t0.2.1 sNil 0 (d :: l))) (retP (mk 61 t0.2.1 sNil 0 [d])))
def alts : List (ByteArray × (Nat × Nat → Par T1)) := [(sIf, ifS g bd), (sCase, caseS g bd), (sWhile, whileS g bd), (sRepeat, repS g bd), (sLoop, loopS bd), (sExit, exitS), (sFor, forS g bd), (sWith, withS g bd), (sReturn, returnS g)]
def stmL : List (ByteArray × (Nat × Nat → Par T1)) → Par (List T1)
 | [] => posP fun t => if isNm t = true then bindP (plainS g) fun x => retP [x] else retP []
 | (s, q) :: r => tokP (isWd6 s) (fun t => bindP (q t.2.1) fun x => retP [x]) (stmL r)
def stmS : Par (List T1) := stmL g (alts g bd)
def bodyR : Nat → List T1 → Par (List T1)
 | 0, _ => failP
 | f + 1, acc => bindP (stmS g bd) fun s => tokP (tT sSem) (fun _ => bodyR f (acc ++ s)) (retP (acc ++ s))
def bodyG : Par T1 := posP fun t0 => bindP (bodyR g bd g []) fun l => retP (mk 46 t0.2.1 sNil 0 l)
end
def bodyF (g : Nat) : Nat → Par T1
 | 0 => failP
 | f + 1 => bodyG g (bodyF g f)
section
variable {g : Nat} {bd : Par T1} (hb : Good2 bd)
theorem g2_expr : Good2 (exprF g) := g2_of (good_exprF g)
theorem g2_design : Good2 (designF (exprF g) g) := g2_of (good_designF (good_exprF g) g)
theorem g2_labels : Good2 (labelsF g) := g2_of (good_labelsF g)
theorem g2_endS {k : Nat} {p : Nat × Nat} {n : ByteArray} {l : List T1} : Good2 (endS k p n l) := g2_need (g2_ret _)
include hb
theorem g2_ifsF : ∀ (f : Nat) (acc : List T1), Good2 (ifsF g bd f acc)
 | 0, _ => g2_fail
 | f + 1, acc => g2_bind g2_expr fun c => g2_need (g2_bind hb fun b => g2_tok (tT_no _) (fun _ => g2_ifsF f _) (g2_ret _))
theorem g2_elseS {k : Nat} {p : Nat × Nat} {l : List T1} : Good2 (elseS bd k p l) := g2_tok (tT_no _) (fun _ => g2_bind hb fun b => g2_endS) g2_endS
theorem g2_ifS {p : Nat × Nat} : Good2 (ifS g bd p) := g2_bind (g2_ifsF hb _ _) fun l => g2_elseS hb
theorem g2_armsF : ∀ (f : Nat) (acc : List T1), Good2 (armsF g bd f acc)
 | 0, _ => g2_fail
 | f + 1, acc => g2_pos fun t0 => by
   split
   ·exact g2_tok (tT_no _) (fun _ => g2_armsF f _) (g2_ret _)
   ·exact g2_bind g2_labels fun l => g2_need (g2_bind hb fun b => g2_tok (tT_no _) (fun _ => g2_armsF f _) (g2_ret _))
theorem g2_caseS {p : Nat × Nat} : Good2 (caseS g bd p) := g2_bind g2_expr fun x => g2_need (g2_bind (g2_armsF hb _ _) fun l => g2_tok (tT_no _) (fun t => g2_bind hb fun b => g2_endS) g2_endS)
theorem g2_whileS {p : Nat × Nat} : Good2 (whileS g bd p) := g2_bind g2_expr fun c => g2_need (g2_bind hb fun b => g2_endS)
theorem g2_repS {p : Nat × Nat} : Good2 (repS g bd p) := g2_bind hb fun b => g2_need (g2_bind g2_expr fun c => g2_ret _)
theorem g2_loopS {p : Nat × Nat} : Good2 (loopS bd p) := g2_bind hb fun b => g2_endS
theorem g2_forE {p : Nat × Nat} {v : ByteArray} {a z y : T1} : Good2 (forE bd p v a z y) := g2_need (g2_bind hb fun b => g2_endS)
theorem g2_forS {p : Nat × Nat} : Good2 (forS g bd p) := g2_tok rfl (fun v => g2_need (g2_bind g2_expr fun a => g2_need (g2_bind g2_expr fun z => g2_tok (tT_no _) (fun _ => g2_bind g2_expr fun y => g2_forE hb) (g2_forE hb)))) g2_fail
theorem g2_withS {p : Nat × Nat} : Good2 (withS g bd p) := g2_bind g2_design fun c => g2_need (g2_bind hb fun b => g2_endS)
omit hb in
theorem g2_returnS {p : Nat × Nat} : Good2 (returnS g p) := g2_pos fun t => by
 split
 ·exact g2_ret _
 ·exact g2_bind g2_expr fun x => g2_ret _
omit hb in
theorem g2_plainS : Good2 (plainS g) := g2_pos fun t0 => g2_bind g2_design fun d => g2_pos fun t1 => g2_tok (tT_no _) (fun _ => g2_bind g2_expr fun y => g2_ret _)
 (g2_tok (tT_no _) (fun _ => g2_bind (g2_of (good_betweenF (good_exprF g) g _)) fun l => g2_ret _) (g2_ret _))
theorem g2_alts : ∀ x ∈ alts g bd, ∀ p, Good2 (x.2 p) := by
 intro x hx p
 unfold alts at hx
 simp only [List.mem_cons, List.not_mem_nil, or_false] at hx
 rcases hx with rfl | rfl | rfl | rfl | rfl | rfl | rfl | rfl | rfl
 ·exact g2_ifS hb
 ·exact g2_caseS hb
 ·exact g2_whileS hb
 ·exact g2_repS hb
 ·exact g2_loopS hb
 ·exact g2_ret _
 ·exact g2_forS hb
 ·exact g2_withS hb
 ·exact g2_returnS
omit hb in
theorem g2_stmL : ∀ (l : List (ByteArray × (Nat × Nat → Par T1))), (∀ x ∈ l, ∀ p, Good2 (x.2 p)) → Good2 (stmL g l)
 | [], _ => g2_pos fun t => by
   split
   ·exact g2_bind g2_plainS fun x => g2_ret _
   ·exact g2_ret _
 | (s, q) :: r, h => g2_tok (by simp [isWd6, noPT, noTk]) (fun t => g2_bind (h _ (List.mem_cons_self ..) _) fun x => g2_ret _) (g2_stmL r fun x hx => h x (List.mem_cons_of_mem _ hx))
theorem g2_stmS : Good2 (stmS g bd) := g2_stmL _ (g2_alts hb)
theorem g2_bodyR : ∀ (f : Nat) (acc : List T1), Good2 (bodyR g bd f acc)
 | 0, _ => g2_fail
 | f + 1, acc => g2_bind (g2_stmS hb) fun s => g2_tok (tT_no _) (fun _ => g2_bodyR f _) (g2_ret _)
theorem g2_bodyG : Good2 (bodyG g bd) := g2_pos fun t0 => g2_bind (g2_bodyR hb _ _) fun l => g2_ret _
end
theorem g2_bodyF (g : Nat) : ∀ f, Good2 (bodyF g f)
 | 0 => g2_fail
 | f + 1 => g2_bodyG (g2_bodyF g f)
end Go.Proofs.YtkemhmfdooghkaaGreatDoor.St
namespace Go.Proofs.YtkemhmfdooghkaaGreatDoor.De
open Tr (Nd Fo)
open Lx (Tk noTk)
open Ex St
abbrev sEqu : ByteArray := ⟨#[61]⟩
abbrev sArray : ByteArray := ⟨#[65, 82, 82, 65, 89]⟩
abbrev sRecord : ByteArray := ⟨#[82, 69, 67, 79, 82, 68]⟩
abbrev sSet : ByteArray := ⟨#[83, 69, 84]⟩
abbrev sPointer : ByteArray := ⟨#[80, 79, 73, 78, 84, 69, 82]⟩
abbrev sProc : ByteArray := ⟨#[80, 82, 79, 67, 69, 68, 85, 82, 69]⟩
abbrev sVar : ByteArray := ⟨#[86, 65, 82]⟩
abbrev sConst : ByteArray := ⟨#[67, 79, 78, 83, 84]⟩
abbrev sType : ByteArray := ⟨#[84, 89, 80, 69]⟩
abbrev sModule : ByteArray := ⟨#[77, 79, 68, 85, 76, 69]⟩
abbrev sImport : ByteArray := ⟨#[73, 77, 80, 79, 82, 84]⟩
abbrev sExport : ByteArray := ⟨#[69, 88, 80, 79, 82, 84]⟩
abbrev sQual : ByteArray := ⟨#[81, 85, 65, 76, 73, 70, 73, 69, 68]⟩
abbrev sBegin : ByteArray := ⟨#[66, 69, 71, 73, 78]⟩
def namesF : Nat → List T1 → Par (List T1)
 | 0, _ => failP
 | f + 1, acc => tokP isNm (fun t => tokP (tT sCom) (fun _ => namesF f (acc ++ [mk 1 t.2.1 t.1.text 0 []])) (retP (acc ++ [mk 1 t.2.1 t.1.text 0 []]))) failP
def isEnd (name : ByteArray) (t : PT) : Bool := isNm t && decide (t.1.text = name)
def endsF {α : Type} (name : ByteArray) (p : Par α) : Par α := tokP (isEnd name) (fun _ => p) failP
section
variable (g : Nat)
def refF : Par T1 := posP fun t => bindP (qualF g) fun x => retP (mk 20 t.2.1 sNil 0 [x])
def enumF (p : Nat × Nat) : Par T1 := bindP (namesF g []) fun l => needF sRap (retP (mk 21 p sNil 0 l))
def subF (p : Nat × Nat) : Par T1 := bindP (exprF g) fun x => needF sRan (bindP (exprF g) fun y => needF sKet (retP (mk 22 p sNil 0 [x, y])))
def simpleF : Par T1 := posP fun t => tokP (tT sPar) (fun _ => enumF g t.2.1) (tokP (tT sBra) (fun _ => subF g t.2.1) (refF g))
def formalF : Par T1 := posP fun t => tokP (tT sArray) (fun _ => needF sOf (bindP (refF g) fun x => retP (mk 24 t.2.1 sNil 0 [x]))) (refF g)
def paramB (nm : Bool) (p : Nat × Nat) (n : Int) : Par T1 := if nm = true then bindP (namesF g []) fun l => needF sCol (bindP (formalF g) fun x => retP (mk 34 p sNil n (l ++ [x]))) else bindP (formalF g) fun x => retP (mk 34 p sNil n [x])
def paramF (nm : Bool) : Par T1 := posP fun t => tokP (tT sVar) (fun _ => paramB g nm t.2.1 1) (paramB g nm t.2.1 0)
def parsR (sep : ByteArray) (nm : Bool) : Nat → List T1 → Par (List T1)
 | 0, _ => failP
 | f + 1, acc => bindP (paramF g nm) fun x => tokP (tT sep) (fun _ => parsR sep nm f (acc ++ [x])) (retP (acc ++ [x]))
def ansF (l : List T1) : Par (List T1) := needF sRap (tokP (tT sCol) (fun _ => bindP (refF g) fun x => retP (l ++ [x])) (retP (l ++ [zeroT])))
def paramsF (sep : ByteArray) (nm : Bool) : Par (List T1) := tokP (tT sPar) (fun _ => posP fun t => if tT sRap t = true then ansF g [] else bindP (parsR g sep nm g []) (ansF g)) (retP [zeroT])
def headF (p : Nat × Nat) (n : ByteArray) (l : List T1) : T1 := mk 43 p n 0 [mk 33 p sNil 0 l]
def headingF : Par T1 := posP fun t => needF sProc (tokP isNm (fun n => bindP (paramsF g sSem true) fun l => retP (headF t.2.1 n.1.text l)) failP)
variable (ty : Par T1)
def fieldsR (pt : Par T1) (pb : Bool) : Nat → List T1 → Par (List T1)
 | 0, _ => failP
 | f + 1, acc => posP fun t => if isNm t = true then bindP (namesF g []) fun l => needF sCol (bindP ty fun x => tokP (tT sSem) (fun _ => fieldsR pt pb f (acc ++ [mk 26 t.2.1 sNil 0 (l ++ [x])])) (retP (acc ++ [mk 26 t.2.1 sNil 0 (l ++ [x])])))
   else if (pb && tT sCase t) = true then bindP pt fun x => tokP (tT sSem) (fun _ => retP (acc ++ [x])) (retP (acc ++ [x]))
   else tokP (tT sSem) (fun _ => fieldsR pt pb f acc) (retP acc)
def plainFs : Par (List T1) := fieldsR g ty failP false g []
def armsR : Nat → List T1 → Par (List T1)
 | 0, _ => failP
 | f + 1, acc => posP fun t => if armOut t = true then tokP (tT sBar) (fun _ => armsR f acc) (retP acc)
   else bindP (labelsF g) fun x => needF sCol (bindP (plainFs g ty) fun l => tokP (tT sBar) (fun _ => armsR f (acc ++ [mk 28 t.2.1 sNil 0 (x :: l)])) (retP (acc ++ [mk 28 t.2.1 sNil 0 (x :: l)])))
def partF : Par T1 := posP fun t => needF sCase (tokP isNm (fun n => needF sCol (bindP (refF g) fun x => needF sOf (bindP (armsR g ty g [x]) fun l =>
 tokP (tT sElse) (fun u => bindP (plainFs g ty) fun fl => needF sEnd (retP (mk 27 t.2.1 n.1.text 0 (l ++ [mk 30 u.2.1 sNil 0 fl])))) (needF sEnd (retP (mk 27 t.2.1 n.1.text 0 l)))))) failP)
def arrayR : Nat → Nat × Nat → Par T1
 | 0, _ => failP
 | f + 1, p => bindP (simpleF g) fun x => tokP (tT sCom) (fun u => bindP (arrayR f u.2.1) fun y => retP (mk 23 p sNil 0 [x, y])) (needF sOf (bindP ty fun y => retP (mk 23 p sNil 0 [x, y])))
def recF (p : Nat × Nat) : Par T1 := bindP (fieldsR g ty (partF g ty) true g []) fun l => needF sEnd (retP (mk 25 p sNil 0 l))
def setF (p : Nat × Nat) : Par T1 := needF sOf (bindP (simpleF g) fun x => retP (mk 31 p sNil 0 [x]))
def ptrF (p : Nat × Nat) : Par T1 := needF sTo (bindP ty fun x => retP (mk 32 p sNil 0 [x]))
def prcF (p : Nat × Nat) : Par T1 := bindP (paramsF g sCom false) fun l => retP (mk 33 p sNil 0 l)
def typG : Par T1 := posP fun t => tokP (tT sArray) (fun _ => arrayR g ty g t.2.1) (tokP (tT sRecord) (fun _ => recF g ty t.2.1) (tokP (tT sSet) (fun _ => setF g t.2.1)
 (tokP (tT sPointer) (fun _ => ptrF ty t.2.1) (tokP (tT sProc) (fun _ => prcF g t.2.1) (simpleF g)))))
end
def typF (g : Nat) : Nat → Par T1
 | 0 => failP
 | f + 1 => typG g (typF g f)
section
variable (g : Nat) (ty bl : Par T1)
def constF : Par T1 := tokP isNm (fun t => needF sEqu (bindP (exprF g) fun x => retP (mk 40 t.2.1 t.1.text 0 [x]))) failP
def typeF (df : Bool) : Par T1 := tokP isNm (fun t => posP fun u => if (df && tT sSem u) = true then retP (mk 41 t.2.1 t.1.text 0 [zeroT]) else needF sEqu (bindP ty fun x => retP (mk 41 t.2.1 t.1.text 0 [x]))) failP
def varF : Par T1 := posP fun t => bindP (namesF g []) fun l => needF sCol (bindP ty fun x => retP (mk 42 t.2.1 sNil 0 (l ++ [x])))
def secR (q : Par T1) : Nat → List T1 → Par (List T1)
 | 0, _ => failP
 | f + 1, acc => posP fun t => if isNm t = true then bindP q fun x => needF sSem (secR q f (acc ++ [x])) else retP acc
def addK (h b : T1) : T1 := (h.1, h.2.app (forest [b]))
def procF (df : Bool) : Par T1 := bindP (headingF g) fun h => needF sSem (if df = true then retP h else bindP bl fun b => endsF h.1.name (needF sSem (retP (addK h b))))
def impR : Nat → List T1 → Par (List T1)
 | 0, _ => failP
 | f + 1, acc => tokP (tT sImport) (fun t => bindP (namesF g []) fun l => needF sSem (impR f (acc ++ [mk 53 t.2.1 sNil 0 l]))) (retP acc)
def expB (p : Nat × Nat) (q : Int) (acc : List T1) : Par (List T1) := bindP (namesF g []) fun l => needF sSem (retP (acc ++ [mk 55 p sNil q l]))
def expF (acc : List T1) : Par (List T1) := tokP (tT sExport) (fun t => tokP (tT sQual) (fun _ => expB g t.2.1 1 acc) (expB g t.2.1 0 acc)) (retP acc)
def modF : Par T1 := posP fun t => needF sModule (tokP isNm (fun n => needF sSem (bindP (impR g g []) fun l => bindP (expF g l) fun l2 => bindP bl fun b => endsF n.1.text (needF sSem (retP (mk 44 t.2.1 n.1.text 0 (l2 ++ [b])))))) failP)
def declsR (df : Bool) : Nat → List T1 → Par (List T1)
 | 0, _ => failP
 | f + 1, acc => tokP (isWd6 sConst) (fun _ => bindP (secR (constF g) g acc) (declsR df f)) (tokP (isWd6 sType) (fun _ => bindP (secR (typeF ty df) g acc) (declsR df f)) (tokP (isWd6 sVar) (fun _ => bindP (secR (varF g ty) g acc) (declsR df f))
   (posP fun t => if tT sProc t = true then bindP (procF g bl df) fun x => declsR df f (acc ++ [x]) else if (tT sModule t && !df) = true then bindP (modF g bl) fun x => declsR df f (acc ++ [x]) else retP acc)))
def bdF (g : Nat) : Par T1 := bodyF g (g + 1)
def blockG : Par T1 := posP fun t => bindP (declsR g ty bl false g []) fun l => tokP (tT sBegin) (fun _ => bindP (bdF g) fun b => needF sEnd (retP (mk 45 t.2.1 sNil 0 (l ++ [b]))))
 (posP fun u => needF sEnd (retP (mk 45 t.2.1 sNil 0 (l ++ [mk 46 u.2.1 sNil 0 []]))))
end
def blockF (g : Nat) : Nat → Par T1
 | 0 => failP
 | f + 1 => blockG g (typF g g) (blockF g f)
def defF (g : Nat) : Par (List T1) := declsR g (typF g g) failP true g []
section
variable {g : Nat}
theorem g2_if {α : Type} {c : Prop} [Decidable c] {p q : Par α} (h1 : Good2 p) (h2 : Good2 q) : Good2 (if c then p else q) := by split <;> assumption
theorem isEnd_no (n : ByteArray) : isEnd n noPT = false := rfl
theorem isWd6_no (n : ByteArray) : isWd6 n noPT = false := rfl
theorem g2_names : ∀ (f : Nat) (acc : List T1), Good2 (namesF f acc)
 | 0, _ => g2_fail
 | f + 1, acc => g2_tok rfl (fun t => g2_tok (tT_no _) (fun _ => g2_names f _) (g2_ret _)) g2_fail
theorem g2_ends {α : Type} {n : ByteArray} {p : Par α} (h : Good2 p) : Good2 (endsF n p) := g2_tok (isEnd_no n) (fun _ => h) g2_fail
theorem g2_qual : Good2 (qualF g) := g2_of (good_qualF g)
theorem g2_ref : Good2 (refF g) := g2_pos fun t => g2_bind g2_qual fun x => g2_ret _
theorem g2_enum {p : Nat × Nat} : Good2 (enumF g p) := g2_bind (g2_names _ _) fun l => g2_need (g2_ret _)
theorem g2_sub {p : Nat × Nat} : Good2 (subF g p) := g2_bind g2_expr fun x => g2_need (g2_bind g2_expr fun y => g2_need (g2_ret _))
theorem g2_simple : Good2 (simpleF g) := g2_pos fun t => g2_tok (tT_no _) (fun _ => g2_enum) (g2_tok (tT_no _) (fun _ => g2_sub) g2_ref)
theorem g2_formal : Good2 (formalF g) := g2_pos fun t => g2_tok (tT_no _) (fun _ => g2_need (g2_bind g2_ref fun x => g2_ret _)) g2_ref
theorem g2_paramB {nm : Bool} {p : Nat × Nat} {n : Int} : Good2 (paramB g nm p n) := by
 unfold paramB
 exact g2_if (g2_bind (g2_names _ _) fun l => g2_need (g2_bind g2_formal fun x => g2_ret _)) (g2_bind g2_formal fun x => g2_ret _)
theorem g2_param {nm : Bool} : Good2 (paramF g nm) := g2_pos fun t => g2_tok (tT_no _) (fun _ => g2_paramB) g2_paramB
theorem g2_pars {sep : ByteArray} {nm : Bool} : ∀ (f : Nat) (acc : List T1), Good2 (parsR g sep nm f acc)
 | 0, _ => g2_fail
 | f + 1, acc => g2_bind g2_param fun x => g2_tok (tT_no _) (fun _ => g2_pars f _) (g2_ret _)
theorem g2_ans {l : List T1} : Good2 (ansF g l) := g2_need (g2_tok (tT_no _) (fun _ => g2_bind g2_ref fun x => g2_ret _) (g2_ret _))
theorem g2_params {sep : ByteArray} {nm : Bool} : Good2 (paramsF g sep nm) := g2_tok (tT_no _) (fun _ => g2_pos fun t => g2_if g2_ans (g2_bind (g2_pars _ _) fun l => g2_ans)) (g2_ret _)
theorem g2_heading : Good2 (headingF g) := g2_pos fun t => g2_need (g2_tok rfl (fun n => g2_bind g2_params fun l => g2_ret _) g2_fail)
section
variable {ty : Par T1} (ht : Good2 ty)
include ht
theorem g2_fields {pt : Par T1} (hp : Good2 pt) {pb : Bool} : ∀ (f : Nat) (acc : List T1), Good2 (fieldsR g ty pt pb f acc)
 | 0, _ => g2_fail
 | f + 1, acc => g2_pos fun t => g2_if (g2_bind (g2_names _ _) fun l => g2_need (g2_bind ht fun x => g2_tok (tT_no _) (fun _ => g2_fields hp f _) (g2_ret _)))
   (g2_if (g2_bind hp fun x => g2_tok (tT_no _) (fun _ => g2_ret _) (g2_ret _)) (g2_tok (tT_no _) (fun _ => g2_fields hp f _) (g2_ret _)))
theorem g2_plainFs : Good2 (plainFs g ty) := g2_fields ht g2_fail _ _
theorem g2_arms : ∀ (f : Nat) (acc : List T1), Good2 (armsR g ty f acc)
 | 0, _ => g2_fail
 | f + 1, acc => g2_pos fun t => g2_if (g2_tok (tT_no _) (fun _ => g2_arms f _) (g2_ret _)) (g2_bind g2_labels fun x => g2_need (g2_bind (g2_plainFs ht) fun l => g2_tok (tT_no _) (fun _ => g2_arms f _) (g2_ret _)))
theorem g2_part : Good2 (partF g ty) := g2_pos fun t => g2_need (g2_tok rfl (fun n => g2_need (g2_bind g2_ref fun x => g2_need (g2_bind (g2_arms ht _ _) fun l =>
 g2_tok (tT_no _) (fun u => g2_bind (g2_plainFs ht) fun fl => g2_need (g2_ret _)) (g2_need (g2_ret _))))) g2_fail)
theorem g2_array : ∀ (f : Nat) (p : Nat × Nat), Good2 (arrayR g ty f p)
 | 0, _ => g2_fail
 | f + 1, p => g2_bind g2_simple fun x => g2_tok (tT_no _) (fun u => g2_bind (g2_array f _) fun y => g2_ret _) (g2_need (g2_bind ht fun y => g2_ret _))
theorem g2_rec {p : Nat × Nat} : Good2 (recF g ty p) := g2_bind (g2_fields ht (g2_part ht) _ _) fun l => g2_need (g2_ret _)
theorem g2_ptr {p : Nat × Nat} : Good2 (ptrF ty p) := g2_need (g2_bind ht fun x => g2_ret _)
end
theorem g2_set {p : Nat × Nat} : Good2 (setF g p) := g2_need (g2_bind g2_simple fun x => g2_ret _)
theorem g2_prc {p : Nat × Nat} : Good2 (prcF g p) := g2_bind g2_params fun l => g2_ret _
theorem g2_typG {ty : Par T1} (ht : Good2 ty) : Good2 (typG g ty) := g2_pos fun t => g2_tok (tT_no _) (fun _ => g2_array ht _ _) (g2_tok (tT_no _) (fun _ => g2_rec ht) (g2_tok (tT_no _) (fun _ => g2_set)
 (g2_tok (tT_no _) (fun _ => g2_ptr ht) (g2_tok (tT_no _) (fun _ => g2_prc) g2_simple))))
theorem g2_typF : ∀ f : Nat, Good2 (typF g f)
 | 0 => g2_fail
 | f + 1 => g2_typG (g2_typF f)
section
variable {ty bl : Par T1}
theorem g2_const : Good2 (constF g) := g2_tok rfl (fun t => g2_need (g2_bind g2_expr fun x => g2_ret _)) g2_fail
theorem g2_type (ht : Good2 ty) {df : Bool} : Good2 (typeF ty df) := g2_tok rfl (fun t => g2_pos fun u => g2_if (g2_ret _) (g2_need (g2_bind ht fun x => g2_ret _))) g2_fail
theorem g2_var (ht : Good2 ty) : Good2 (varF g ty) := g2_pos fun t => g2_bind (g2_names _ _) fun l => g2_need (g2_bind ht fun x => g2_ret _)
theorem g2_sec {q : Par T1} (hq : Good2 q) : ∀ (f : Nat) (acc : List T1), Good2 (secR q f acc)
 | 0, _ => g2_fail
 | f + 1, acc => g2_pos fun t => g2_if (g2_bind hq fun x => g2_need (g2_sec hq f _)) (g2_ret _)
theorem g2_proc (hb : Good2 bl) {df : Bool} : Good2 (procF g bl df) := g2_bind g2_heading fun h => g2_need (g2_if (g2_ret _) (g2_bind hb fun b => g2_ends (g2_need (g2_ret _))))
theorem g2_imp : ∀ (f : Nat) (acc : List T1), Good2 (impR g f acc)
 | 0, _ => g2_fail
 | f + 1, acc => g2_tok (tT_no _) (fun t => g2_bind (g2_names _ _) fun l => g2_need (g2_imp f _)) (g2_ret _)
theorem g2_expB {p : Nat × Nat} {q : Int} {acc : List T1} : Good2 (expB g p q acc) := g2_bind (g2_names _ _) fun l => g2_need (g2_ret _)
theorem g2_exp {acc : List T1} : Good2 (expF g acc) := g2_tok (tT_no _) (fun t => g2_tok (tT_no _) (fun _ => g2_expB) g2_expB) (g2_ret _)
theorem g2_mod (hb : Good2 bl) : Good2 (modF g bl) := g2_pos fun t => g2_need (g2_tok rfl (fun n => g2_need (g2_bind (g2_imp _ _) fun l => g2_bind g2_exp fun l2 => g2_bind hb fun b => g2_ends (g2_need (g2_ret _)))) g2_fail)
theorem g2_decls (ht : Good2 ty) (hb : Good2 bl) {df : Bool} : ∀ (f : Nat) (acc : List T1), Good2 (declsR g ty bl df f acc)
 | 0, _ => g2_fail
 | f + 1, acc => g2_tok (isWd6_no _) (fun _ => g2_bind (g2_sec g2_const _ _) fun l => g2_decls ht hb f l) (g2_tok (isWd6_no _) (fun _ => g2_bind (g2_sec (g2_type ht) _ _) fun l => g2_decls ht hb f l)
   (g2_tok (isWd6_no _) (fun _ => g2_bind (g2_sec (g2_var ht) _ _) fun l => g2_decls ht hb f l)
   (g2_pos fun t => g2_if (g2_bind (g2_proc hb) fun x => g2_decls ht hb f _) (g2_if (g2_bind (g2_mod hb) fun x => g2_decls ht hb f _) (g2_ret _)))))
theorem g2_bdF : Good2 (bdF g) := g2_bodyF _ _
theorem g2_blockG (ht : Good2 ty) (hb : Good2 bl) : Good2 (blockG g ty bl) := g2_pos fun t => g2_bind (g2_decls ht hb _ _) fun l => g2_tok (tT_no _) (fun _ => g2_bind g2_bdF fun b => g2_need (g2_ret _)) (g2_pos fun u => g2_need (g2_ret _))
end
theorem g2_blockF : ∀ f : Nat, Good2 (blockF g f)
 | 0 => g2_fail
 | f + 1 => g2_blockG (g2_typF _) (g2_blockF f)
theorem g2_defF : Good2 (defF g) := g2_decls (g2_typF _) g2_fail _ _
end
end Go.Proofs.YtkemhmfdooghkaaGreatDoor.De
