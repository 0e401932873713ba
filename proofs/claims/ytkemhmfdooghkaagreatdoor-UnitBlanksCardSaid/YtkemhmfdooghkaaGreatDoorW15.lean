/- A part of the proof: F4. -/
import Derived.Test.YtkemhmfdooghkaaGreatDoorW1
import Derived.Test.YtkemhmfdooghkaaGreatDoorW14
import Derived.Test.YtkemhmfdooghkaaGreatDoorW11
set_option linter.unusedSimpArgs false
set_option linter.unusedVariables false
set_option maxRecDepth 100000
set_option maxHeartbeats 6400000
namespace Go.Proofs.YtkemhmfdooghkaaGreatDoor.Ex
open Tr (Nd Fo)
open Lx (Tk noTk)
abbrev Par (α : Type) := List PT → Nat → Except Nat (α × Nat)
def posE {α : Type} : Except Nat (α × Nat) → Nat
 | .ok (_, j) => j
 | .error k => k
def Lock {α : Type} (m : Nat) (r r' : Except Nat (α × Nat)) : Prop :=
 (r' = r ∧ (match r with | .ok (_, j) => j ≤ m | .error k => k < m)) ∨ (posE r' = m ∧ (match r with | .ok (_, j) => m < j | .error k => m ≤ k))
structure Good {α : Type} (p : Par α) : Prop where
 mono : ∀ L i, i ≤ posE (p L i)
 end_ : ∀ L i, L.length ≤ i → posE (p L i) = i
 lock : ∀ L m i, i ≤ m → m ≤ L.length → Lock m (p L i) (p (L.take m) i)
def Strict {α : Type} (p : Par α) : Prop := ∀ L i a j, p L i = .ok (a, j) → i < j
def bindP {α β : Type} (p : Par α) (q : α → Par β) : Par β := fun L i => match p L i with
 | .error k => .error k
 | .ok (a, j) => q a L j
def tokP {α : Type} (t : PT → Bool) (A : PT → Par α) (B : Par α) : Par α := fun L i => if t (tk L i) = true then A (tk L i) L (i + 1) else B L i
def retP {α : Type} (a : α) : Par α := fun _ i => .ok (a, i)
def failP {α : Type} : Par α := fun _ i => .error i
def posP {α : Type} (q : PT → Par α) : Par α := fun L i => q (tk L i) L i
theorem tk_end {L : List PT} {i : Nat} (h : L.length ≤ i) : tk L i = noPT := by unfold tk; rw [List.getElem?_eq_none h]; rfl
theorem tk_take {L : List PT} {m i : Nat} (h : i < m) : tk (L.take m) i = tk L i := by unfold tk; rw [List.getElem?_take_of_lt h]
theorem take_len {L : List PT} {m : Nat} (h : m ≤ L.length) : (L.take m).length = m := by rw [List.length_take]; omega
section
variable {α β : Type}
theorem Good.congr {p p' : Par α} (h : Good p) (e : p' = p) : Good p' := by subst e; exact h
theorem Strict.congr {p p' : Par α} (h : Strict p) (e : p' = p) : Strict p' := by subst e; exact h
theorem good_ret (a : α) : Good (retP a) := ⟨fun L i => Nat.le_refl _, fun L i _ => rfl, fun L m i h _ => .inl ⟨rfl, h⟩⟩
theorem good_fail : Good (failP (α := α)) := ⟨fun L i => Nat.le_refl _, fun L i _ => rfl, fun L m i h _ => by
 rcases Nat.lt_or_ge i m with h1 | h1
 ·exact .inl ⟨rfl, h1⟩
 ·have : i = m := by omega
  subst this
  exact .inr ⟨rfl, Nat.le_refl _⟩⟩
theorem strict_fail : Strict (failP (α := α)) := fun L i a j h => by cases h
theorem good_bind {p : Par α} {q : α → Par β} (hp : Good p) (hq : ∀ a, Good (q a)) : Good (bindP p q) := by
 refine ⟨fun L i => ?_, fun L i h => ?_, fun L m i him hm => ?_⟩
 ·have h1 := hp.mono L i
  unfold bindP
  cases e : p L i with
  | error k => rw [e] at h1; exact h1
  | ok r =>
    obtain ⟨a, j⟩ := r
    rw [e] at h1
    exact Nat.le_trans h1 ((hq a).mono L j)
 ·have h1 := hp.end_ L i h
  unfold bindP
  cases e : p L i with
  | error k => rw [e] at h1; exact h1
  | ok r =>
    obtain ⟨a, j⟩ := r
    rw [e] at h1
    have h2 : j = i := h1
    subst h2
    exact (hq a).end_ L j h
 ·unfold bindP
  rcases hp.lock L m i him hm with ⟨h1, h2⟩ | ⟨h1, h2⟩
  ·rw [h1]
   cases e : p L i with
   | error k => rw [e] at h2; exact .inl ⟨rfl, h2⟩
   | ok r =>
     obtain ⟨a, j⟩ := r
     rw [e] at h2
     exact (hq a).lock L m j h2 hm
  ·right
   constructor
   ·cases e : p (L.take m) i with
    | error k => rw [e] at h1; exact h1
    | ok r =>
      obtain ⟨a, j⟩ := r
      rw [e] at h1
      have h3 : j = m := h1
      subst h3
      exact (hq a).end_ _ _ (by rw [take_len hm]; exact Nat.le_refl _)
   ·cases e : p L i with
    | error k => rw [e] at h2; exact h2
    | ok r =>
      obtain ⟨a, j⟩ := r
      rw [e] at h2
      have h3 : m < j := h2
      have h4 := (hq a).mono L j
      dsimp only
      cases e2 : q a L j with
      | error k => rw [e2] at h4; exact Nat.le_trans (Nat.le_of_lt h3) h4
      | ok r2 =>
        obtain ⟨b, j2⟩ := r2
        rw [e2] at h4
        exact Nat.lt_of_lt_of_le h3 h4
theorem strict_bind {p : Par α} {q : α → Par β} (hp : Strict p) (hq : ∀ a, Good (q a)) : Strict (bindP p q) := by
 intro L i b j h
 unfold bindP at h
 cases e : p L i with
 | error k => rw [e] at h; cases h
 | ok r =>
   obtain ⟨a, j1⟩ := r
   rw [e] at h
   have h1 := hp L i a j1 e
   have h2 := (hq a).mono L j1
   dsimp only at h
   rw [h] at h2
   exact Nat.lt_of_lt_of_le h1 h2
theorem good_tok {t : PT → Bool} {A : PT → Par α} {B : Par α} (t0 : t noPT = false) (hA : ∀ x, Good (A x)) (hB : Good B) : Good (tokP t A B) := by
 refine ⟨fun L i => ?_, fun L i h => ?_, fun L m i him hm => ?_⟩
 ·unfold tokP
  split
  ·exact Nat.le_trans (Nat.le_succ i) ((hA _).mono L (i + 1))
  ·exact hB.mono L i
 ·unfold tokP
  rw [tk_end h, t0, if_neg (by simp)]
  exact hB.end_ L i h
 ·rcases Nat.lt_or_ge i m with h1 | h1
  ·unfold tokP
   rw [tk_take h1]
   split
   ·exact (hA _).lock L m (i + 1) h1 hm
   ·exact hB.lock L m i him hm
  ·have : i = m := by omega
   subst this
   unfold tokP
   rw [tk_end (L := L.take i) (i := i) (by rw [take_len hm]; exact Nat.le_refl _), t0, if_neg (c := false = true) (by simp)]
   split
   ·refine .inr ⟨hB.end_ _ _ (by rw [take_len hm]; exact Nat.le_refl _), ?_⟩
    have h2 := (hA (tk L i)).mono L (i + 1)
    cases e : A (tk L i) L (i + 1) with
    | error k => rw [e] at h2; exact Nat.le_trans (Nat.le_succ i) h2
    | ok r =>
      obtain ⟨b, j2⟩ := r
      rw [e] at h2
      exact h2
   ·exact hB.lock L i i (Nat.le_refl _) hm
theorem strict_tok {t : PT → Bool} {A : PT → Par α} {B : Par α} (hA : ∀ x, Good (A x)) (hB : Strict B) : Strict (tokP t A B) := by
 intro L i a j h
 unfold tokP at h
 split at h
 ·have h2 := (hA (tk L i)).mono L (i + 1)
  rw [h] at h2
  exact h2
 ·exact hB L i a j h
theorem good_pos {q : PT → Par α} (hq : ∀ x, Good (q x)) (hs : ∀ x, Strict (q x)) : Good (posP q) := by
 refine ⟨fun L i => (hq _).mono L i, fun L i h => (hq _).end_ L i h, fun L m i him hm => ?_⟩
 rcases Nat.lt_or_ge i m with h1 | h1
 ·unfold posP
  rw [tk_take h1]
  exact (hq _).lock L m i him hm
 ·have : i = m := by omega
  subst this
  refine .inr ⟨(hq _).end_ _ _ (by rw [take_len hm]; exact Nat.le_refl _), ?_⟩
  have h2 := (hq (tk L i)).mono L i
  unfold posP
  cases e : q (tk L i) L i with
  | error k => rw [e] at h2; exact h2
  | ok r =>
    obtain ⟨b, j2⟩ := r
    exact hs _ L i b j2 e
theorem strict_pos {q : PT → Par α} (hs : ∀ x, Strict (q x)) : Strict (posP q) := fun L i a j h => hs _ L i a j h
end
def tT (s : ByteArray) (t : PT) : Bool := isSW t && decide (t.1.text = s)
theorem isT_tT (L : List PT) (i : Nat) (s : ByteArray) : isT L i s = tT s (tk L i) := rfl
theorem tT_no (s : ByteArray) : tT s noPT = false := rfl
theorem nameP_eq : nameP = tokP (fun t => decide (t.1.kind = 1)) (fun x => retP x) failP := by
 funext L i; simp [nameP, tokP, retP, failP]
theorem good_name : Good nameP := (good_tok rfl (fun x => good_ret x) good_fail).congr nameP_eq
theorem strict_name : Strict nameP := (strict_tok (fun x => good_ret x) strict_fail).congr nameP_eq
def needF {α : Type} (s : ByteArray) (p : Par α) : Par α := tokP (tT s) (fun _ => p) failP
theorem good_needF {α : Type} (s : ByteArray) {p : Par α} (h : Good p) : Good (needF s p) := good_tok (tT_no s) (fun _ => h) good_fail
theorem need_eq {α : Type} (s : ByteArray) (p : Par α) (L : List PT) (i : Nat) : (match need L i s with | .error k => .error k | .ok j => p L j) = needF s p L i := by
 unfold need needF tokP failP
 rw [isT_tT]
 all_goals (cases tT s (tk L i) <;> rfl)
def dotsF : Nat → T1 → Par T1
 | 0, x => retP x
 | f + 1, x => tokP (tT sDot) (fun t0 => bindP nameP (fun t => dotsF f (mk 2 t0.2.1 t.1.text 0 [x]))) (retP x)
theorem good_dotsF : ∀ (f : Nat) (x : T1), Good (dotsF f x)
 | 0, x => good_ret x
 | f + 1, x => good_tok (tT_no _) (fun _ => good_bind good_name fun _ => good_dotsF f _) (good_ret x)
def qualF (g : Nat) : Par T1 := bindP nameP (fun t => dotsF g (mk 1 t.2.1 t.1.text 0 []))
theorem good_qualF (g : Nat) : Good (qualF g) := good_bind good_name fun _ => good_dotsF g _
theorem strict_qualF (g : Nat) : Strict (qualF g) := strict_bind strict_name fun _ => good_dotsF g _
section
variable (e : Par T1)
def commasF : Nat → T1 → Par T1
 | 0, x => retP x
 | f + 1, x => tokP (tT sCom) (fun t0 => bindP e (fun y => commasF f (mk 3 t0.2.1 sNil 0 [x, y]))) (retP x)
def desF (g : Nat) : Nat → T1 → Par T1
 | 0, x => retP x
 | f + 1, x => tokP (tT sDot) (fun t0 => bindP nameP (fun t => desF g f (mk 2 t0.2.1 t.1.text 0 [x])))
    (tokP (tT sHat) (fun t0 => desF g f (mk 4 t0.2.1 sNil 0 [x]))
    (tokP (tT sBra) (fun t0 => bindP e (fun y => bindP (commasF e g (mk 3 t0.2.1 sNil 0 [x, y])) (fun z => needF sKet (desF g f z)))) (retP x)))
def designF (g : Nat) : Par T1 := bindP (qualF g) (desF e g g)
def elemF : Par T1 := posP fun t0 => bindP e (fun x => tokP (tT sRan) (fun _ => bindP e (fun y => retP (mk 9 t0.2.1 sNil 0 [x, y]))) (retP x))
def manyRF : Nat → List T1 → Par (List T1)
 | 0, acc => retP acc
 | f + 1, acc => tokP (tT sCom) (fun _ => bindP e (fun y => manyRF f (acc ++ [y]))) (retP acc)
def manyF (g : Nat) : Par (List T1) := bindP e (fun x => manyRF e g [x])
def betweenF (g : Nat) (close : ByteArray) : Par (List T1) := tokP (tT close) (fun _ => retP []) (bindP (manyF e g) (fun l => needF close (retP l)))
variable {e}
theorem good_commasF (he : Good e) : ∀ (f : Nat) (x : T1), Good (commasF e f x)
 | 0, x => good_ret x
 | f + 1, x => good_tok (tT_no _) (fun _ => good_bind he fun _ => good_commasF he f _) (good_ret x)
theorem good_desF (he : Good e) (g : Nat) : ∀ (f : Nat) (x : T1), Good (desF e g f x)
 | 0, x => good_ret x
 | f + 1, x => good_tok (tT_no _) (fun _ => good_bind good_name fun _ => good_desF he g f _)
    (good_tok (tT_no _) (fun _ => good_desF he g f _)
    (good_tok (tT_no _) (fun _ => good_bind he fun _ => good_bind (good_commasF he g _) fun _ => good_needF _ (good_desF he g f _)) (good_ret x)))
theorem good_designF (he : Good e) (g : Nat) : Good (designF e g) := good_bind (good_qualF g) fun _ => good_desF he g g _
theorem strict_designF (he : Good e) (g : Nat) : Strict (designF e g) := strict_bind (strict_qualF g) fun _ => good_desF he g g _
theorem good_elem_in (he : Good e) (t0 : PT) : Good (bindP e (fun x => tokP (tT sRan) (fun _ => bindP e (fun y => retP (mk 9 t0.2.1 sNil 0 [x, y]))) (retP x))) :=
 good_bind he fun _ => good_tok (tT_no _) (fun _ => good_bind he fun _ => good_ret _) (good_ret _)
theorem strict_elem_in (he : Good e) (hs : Strict e) (t0 : PT) : Strict (bindP e (fun x => tokP (tT sRan) (fun _ => bindP e (fun y => retP (mk 9 t0.2.1 sNil 0 [x, y]))) (retP x))) :=
 strict_bind hs fun _ => good_tok (tT_no _) (fun _ => good_bind he fun _ => good_ret _) (good_ret _)
theorem good_elemF (he : Good e) (hs : Strict e) : Good (elemF e) := good_pos (good_elem_in he) (strict_elem_in he hs)
theorem strict_elemF (he : Good e) (hs : Strict e) : Strict (elemF e) := strict_pos (strict_elem_in he hs)
theorem good_manyRF (he : Good e) : ∀ (f : Nat) (acc : List T1), Good (manyRF e f acc)
 | 0, acc => good_ret acc
 | f + 1, acc => good_tok (tT_no _) (fun _ => good_bind he fun _ => good_manyRF he f _) (good_ret acc)
theorem good_manyF (he : Good e) (g : Nat) : Good (manyF e g) := good_bind he fun _ => good_manyRF he g _
theorem strict_manyF (he : Good e) (hs : Strict e) (g : Nat) : Strict (manyF e g) := strict_bind hs fun _ => good_manyRF he g _
theorem good_betweenF (he : Good e) (g : Nat) (close : ByteArray) : Good (betweenF e g close) :=
 good_tok (tT_no _) (fun _ => good_ret _) (good_bind (good_manyF he g) fun _ => good_needF _ (good_ret _))
theorem strict_betweenF (he : Good e) (hs : Strict e) (g : Nat) (close : ByteArray) : Strict (betweenF e g close) :=
 strict_tok (fun _ => good_ret _) (strict_bind (strict_manyF he hs g) fun _ => good_needF _ (good_ret _))
end
def opT (k : Nat) (t : PT) : Bool := isSW t && (ops k).any (fun s => decide (s = t.1.text))
def sgT (k : Nat) (t : PT) : Bool := decide (k = 1) && (tT sPlu t || tT sMin t)
theorem opT_no (k : Nat) : opT k noPT = false := rfl
theorem sgT_no (k : Nat) : sgT k noPT = false := by simp [sgT, tT_no]
section
variable (sub : Par T1) (k : Nat)
def binsF : Nat → T1 → Par T1
 | 0, x => retP x
 | f + 1, x => tokP (opT k) (fun t0 => bindP sub (fun y => if k = 0 then retP (mk 11 t0.2.1 t0.1.text 0 [x, y]) else binsF f (mk 11 t0.2.1 t0.1.text 0 [x, y]))) (retP x)
end
theorem good_binsF {sub : Par T1} (k : Nat) (hs : Good sub) : ∀ (f : Nat) (x : T1), Good (binsF sub k f x)
 | 0, x => good_ret x
 | f + 1, x => good_tok (opT_no k) (fun _ => good_bind hs fun _ => by
    split
    ·exact good_ret _
    ·exact good_binsF k hs f _) (good_ret x)
section
variable (fac : Par T1) (g : Nat)
def levF : Nat → Par T1
 | 0 => fac
 | d + 1 => tokP (sgT (2 - d)) (fun t0 => bindP (levF d) (fun x => binsF (levF d) (2 - d) g (mk 12 t0.2.1 t0.1.text 0 [x]))) (bindP (levF d) (fun x => binsF (levF d) (2 - d) g x))
variable {fac}
theorem good_levF (hf : Good fac) : ∀ d, Good (levF fac g d)
 | 0 => hf
 | d + 1 => good_tok (sgT_no _) (fun _ => good_bind (good_levF hf d) fun _ => good_binsF _ (good_levF hf d) g _) (good_bind (good_levF hf d) fun _ => good_binsF _ (good_levF hf d) g _)
theorem strict_levF (hf : Good fac) (hs : Strict fac) : ∀ d, Strict (levF fac g d)
 | 0 => hs
 | d + 1 => strict_tok (fun _ => good_bind (good_levF g hf d) fun _ => good_binsF _ (good_levF g hf d) g _) (strict_bind (strict_levF hf hs d) fun _ => good_binsF _ (good_levF g hf d) g _)
end
def litT (t : PT) : Bool := decide (2 ≤ t.1.kind ∧ t.1.kind ≤ 4)
def tailF (e : Par T1) (g : Nat) (t0 : PT) (x : T1) : Par T1 :=
 tokP (fun t => plainT x && tT sCur t) (fun _ => bindP (betweenF (elemF e) g sRuc) (fun l => retP (mk 8 t0.2.1 sNil 0 (x :: l))))
  (tokP (tT sPar) (fun tj => bindP (betweenF e g sRap) (fun l => retP (mk 10 tj.2.1 sNil 0 (x :: l)))) (retP x))
def factF (g : Nat) : Nat → Par T1
 | 0 => failP
 | f + 1 =>
   tokP litT (fun t => retP (mk (t.1.kind + 3) t.2.1 t.1.text t.1.n []))
   (tokP (tT sPar) (fun _ => bindP (levF (factF g f) g 3) (fun x => needF sRap (retP x)))
   (tokP (tT sNot) (fun t0 => bindP (factF g f) (fun x => retP (mk 12 t0.2.1 sNot 0 [x])))
   (tokP (tT sCur) (fun t0 => bindP (betweenF (elemF (levF (factF g f) g 3)) g sRuc) (fun l => retP (mk 8 t0.2.1 sNil 0 (zeroT :: l))))
   (posP fun t0 => bindP (designF (levF (factF g f) g 3) g) (tailF (levF (factF g f) g 3) g t0)))))
theorem good_tailF {e : Par T1} (he : Good e) (hs : Strict e) (g : Nat) (t0 : PT) (x : T1) : Good (tailF e g t0 x) :=
 good_tok (by simp [tT_no]) (fun _ => good_bind (good_betweenF (good_elemF he hs) g _) fun _ => good_ret _)
  (good_tok (tT_no _) (fun _ => good_bind (good_betweenF he g _) fun _ => good_ret _) (good_ret x))
theorem fact_gs (g : Nat) : ∀ f, Good (factF g f) ∧ Strict (factF g f)
 | 0 => ⟨good_fail, strict_fail⟩
 | f + 1 => by
   obtain ⟨h1, h2⟩ := fact_gs g f
   have e1 := good_levF g h1 3
   have e2 := strict_levF g h1 h2 3
   have d1 : ∀ t0, Strict (bindP (designF (levF (factF g f) g 3) g) (tailF (levF (factF g f) g 3) g t0)) := fun t0 => strict_bind (strict_designF e1 g) fun _ => good_tailF e1 e2 g t0 _
   have d2 : ∀ t0, Good (bindP (designF (levF (factF g f) g 3) g) (tailF (levF (factF g f) g 3) g t0)) := fun t0 => good_bind (good_designF e1 g) fun _ => good_tailF e1 e2 g t0 _
   exact ⟨good_tok rfl (fun _ => good_ret _) (good_tok (tT_no _) (fun _ => good_bind e1 fun _ => good_needF _ (good_ret _))
    (good_tok (tT_no _) (fun _ => good_bind h1 fun _ => good_ret _)
    (good_tok (tT_no _) (fun _ => good_bind (good_betweenF (good_elemF e1 e2) g _) fun _ => good_ret _) (good_pos d2 d1)))),
    strict_tok (fun _ => good_ret _) (strict_tok (fun _ => good_bind e1 fun _ => good_needF _ (good_ret _))
     (strict_tok (fun _ => good_bind h1 fun _ => good_ret _)
     (strict_tok (fun _ => good_bind (good_betweenF (good_elemF e1 e2) g _) fun _ => good_ret _) (strict_pos d1))))⟩
def exprF (g : Nat) : Par T1 := levF (factF g g) g 3
theorem good_exprF (g : Nat) : Good (exprF g) := good_levF g (fact_gs g g).1 3
theorem strict_exprF (g : Nat) : Strict (exprF g) := strict_levF g (fact_gs g g).1 (fact_gs g g).2 3
def labelsF (g : Nat) : Par T1 := posP fun t0 => bindP (manyF (elemF (exprF g)) g) (fun l => retP (mk 29 t0.2.1 sNil 0 l))
theorem good_labelsF (g : Nat) : Good (labelsF g) :=
 good_pos (fun _ => good_bind (good_manyF (good_elemF (good_exprF g) (strict_exprF g)) g) fun _ => good_ret _) (fun _ => strict_bind (strict_manyF (good_elemF (good_exprF g) (strict_exprF g)) (strict_elemF (good_exprF g) (strict_exprF g)) g) fun _ => good_ret _)
theorem nope {α : Type} {p : Par α} (h : Good p) (hs : Strict p) {L : List PT} {i : Nat} (hi : L.length ≤ i) : p L i = .error i := by
 have h1 := h.end_ L i hi
 cases e : p L i with
 | error k => rw [e] at h1; rw [show k = i from h1]
 | ok r =>
   obtain ⟨a, j⟩ := r
   rw [e] at h1
   have := hs L i a j e
   have h2 : j = i := h1
   omega
theorem stay {α : Type} {t : PT → Bool} {A : PT → Par α} {B : Par α} (t0 : t noPT = false) {L : List PT} {i : Nat} (hi : L.length ≤ i) : tokP t A B L i = B L i := by
 unfold tokP; rw [tk_end hi, t0]; rfl
section
variable {L : List PT}
theorem dots_fuel : ∀ (f f' : Nat) (x : T1) (i : Nat), L.length < i + f → L.length < i + f' → dotsP L f x i = dotsF f' x L i
 | 0, 0, x, i, _, _ => rfl
 | 0, f' + 1, x, i, h, _ => by
   unfold dotsF
   rw [stay (L := L) (i := i) (tT_no _) (by omega)]
   rfl
 | f + 1, 0, x, i, _, h => by
   unfold dotsP
   rw [isT_tT, tk_end (by omega), tT_no]; rfl
 | f + 1, f' + 1, x, i, h, h' => by
   unfold dotsP dotsF tokP bindP
   rw [isT_tT]
   cases ht : tT sDot (tk L i)
   ·rfl
   ·dsimp only
    unfold dotP need
    rw [isT_tT, if_pos ht]
    dsimp only
    cases e : nameP L (i + 1) with
    | error k => rfl
    | ok r =>
      obtain ⟨t, j⟩ := r
      have := strict_name L (i + 1) t j e
      exact dots_fuel f f' _ j (by omega) (by omega)
theorem qual_fuel {g : Nat} (hg : L.length < g) (i : Nat) : qualP L i = qualF g L i := by
 unfold qualP qualF bindP
 cases e : nameP L i with
 | error k => rfl
 | ok r =>
   obtain ⟨t, j⟩ := r
   exact dots_fuel _ _ _ j (by omega) (by omega)
section
variable {ex : Nat → Except Nat (T1 × Nat)} {e : Par T1} {lo : Nat}
theorem commas_fuel (hs : Strict e) (hx : ∀ j, lo ≤ j → ex j = e L j) : ∀ (f f' : Nat) (x : T1) (i : Nat), lo ≤ i → L.length < i + f → L.length < i + f' → commasP L ex f x i = commasF e f' x L i
 | 0, 0, x, i, _, _, _ => rfl
 | 0, f' + 1, x, i, _, h, _ => by
   unfold commasF
   rw [stay (L := L) (i := i) (tT_no _) (by omega)]
   rfl
 | f + 1, 0, x, i, _, _, h => by
   unfold commasP
   rw [isT_tT, tk_end (by omega), tT_no]; rfl
 | f + 1, f' + 1, x, i, hl, h, h' => by
   unfold commasP commasF tokP bindP
   rw [isT_tT]
   cases ht : tT sCom (tk L i)
   ·rfl
   ·simp only [if_true]
    rw [hx (i + 1) (by omega)]
    cases e1 : e L (i + 1) with
    | error k => rfl
    | ok r =>
      obtain ⟨y, j⟩ := r
      have := hs L (i + 1) y j e1
      exact commas_fuel hs hx f f' _ j (by omega) (by omega) (by omega)
theorem des_fuel (he : Good e) (hs : Strict e) (hx : ∀ j, lo ≤ j → ex j = e L j) {g : Nat} (hg : L.length < g) : ∀ (f f' : Nat) (x : T1) (i : Nat), lo ≤ i → L.length < i + f → L.length < i + f' → desP L ex f x i = desF e g f' x L i
 | 0, 0, x, i, _, _, _ => rfl
 | 0, f' + 1, x, i, _, h, _ => by
   unfold desF
   rw [stay (L := L) (i := i) (tT_no _) (by omega)]
   rw [stay (L := L) (i := i) (tT_no _) (by omega)]
   rw [stay (L := L) (i := i) (tT_no _) (by omega)]
   rfl
 | f + 1, 0, x, i, _, _, h => by
   unfold desP
   rw [isT_tT, isT_tT, isT_tT, tk_end (by omega), tT_no, tT_no, tT_no]; rfl
 | f + 1, f' + 1, x, i, hl, h, h' => by
   unfold desP desF tokP
   rw [isT_tT L i sDot, isT_tT L i sHat, isT_tT L i sBra]
   by_cases ht : tT sDot (tk L i) = true
   case neg =>
    rw [if_neg ht, if_neg ht]
    by_cases ht2 : tT sHat (tk L i) = true
    case neg =>
     rw [if_neg ht2, if_neg ht2]
     by_cases ht3 : tT sBra (tk L i) = true
     case neg => rw [if_neg ht3, if_neg ht3]; rfl
     case pos =>
      rw [if_pos ht3, if_pos ht3]
      unfold bindP
      try dsimp only
      rw [hx (i + 1) (by omega)]
      cases e1 : e L (i + 1) with
      | error k => rfl
      | ok r =>
        obtain ⟨y, j⟩ := r
        have h1 := hs L (i + 1) y j e1
        dsimp only
        rw [commas_fuel hs hx (L.length + 1) g (mk 3 (pos L i) sNil 0 [x, y]) j (by omega) (by omega) (by omega)]
        change (match commasF e g (mk 3 (tk L i).2.1 sNil 0 [x, y]) L j with | .error k => (Except.error k : Except Nat (T1 × Nat)) | .ok (z, j2) => match need L j2 sKet with | .error k => .error k | .ok j3 => desP L ex f z j3) = _
        have h3 := (good_commasF he g (mk 3 (tk L i).2.1 sNil 0 [x, y])).mono L j
        cases e2 : commasF e g (mk 3 (tk L i).2.1 sNil 0 [x, y]) L j with
        | error k => rfl
        | ok r2 =>
          obtain ⟨z, j2⟩ := r2
          rw [e2] at h3
          have h4 : j ≤ j2 := h3
          dsimp only
          rw [← need_eq]
          unfold need
          rw [isT_tT]
          cases tT sKet (tk L j2)
          ·rfl
          ·exact des_fuel he hs hx hg f f' z (j2 + 1) (by omega) (by omega) (by omega)
    case pos =>
     rw [if_pos ht2, if_pos ht2]
     exact des_fuel he hs hx hg f f' _ (i + 1) (by omega) (by omega) (by omega)
   case pos =>
    rw [if_pos ht, if_pos ht]
    unfold bindP
    try dsimp only
    unfold dotP need
    rw [isT_tT, if_pos ht]
    dsimp only
    cases e1 : nameP L (i + 1) with
    | error k => rfl
    | ok r =>
      obtain ⟨t, j⟩ := r
      have := strict_name L (i + 1) t j e1
      exact des_fuel he hs hx hg f f' _ j (by omega) (by omega) (by omega)
theorem design_fuel (he : Good e) (hs : Strict e) {i : Nat} (hx : ∀ j, i + 1 ≤ j → ex j = e L j) {g : Nat} (hg : L.length < g) : designP L ex i = designF e g L i := by
 unfold designP designF bindP
 rw [qual_fuel hg]
 cases e1 : qualF g L i with
 | error k => rfl
 | ok r =>
   obtain ⟨x, j⟩ := r
   have := strict_qualF g L i x j e1
   exact des_fuel he hs hx hg _ _ x j (by omega) (by omega) (by omega)
theorem elem_fuel (hs : Strict e) (hx : ∀ j, lo ≤ j → ex j = e L j) {i : Nat} (hi : lo ≤ i) : elemP L ex i = elemF e L i := by
 unfold elemP elemF posP bindP
 dsimp only
 rw [hx i hi]
 cases e1 : e L i with
 | error k => rfl
 | ok r =>
   obtain ⟨x, j⟩ := r
   have := hs L i x j e1
   dsimp only [tokP]
   rw [isT_tT]
   by_cases ht : tT sRan (tk L j) = true
   ·rw [if_pos ht, if_pos ht, hx (j + 1) (by omega)]
    all_goals (cases e L (j + 1) <;> rfl)
   ·rw [if_neg ht, if_neg ht]
    rfl
theorem manyR_fuel (hs : Strict e) (hx : ∀ j, lo ≤ j → ex j = e L j) : ∀ (f f' : Nat) (acc : List T1) (i : Nat), lo ≤ i → L.length < i + f → L.length < i + f' → manyR L ex f acc i = manyRF e f' acc L i
 | 0, 0, x, i, _, _, _ => rfl
 | 0, f' + 1, x, i, _, h, _ => by
   unfold manyRF
   rw [stay (L := L) (i := i) (tT_no _) (by omega)]
   rfl
 | f + 1, 0, x, i, _, _, h => by
   unfold manyR
   rw [isT_tT, tk_end (by omega), tT_no]; rfl
 | f + 1, f' + 1, x, i, hl, h, h' => by
   unfold manyR manyRF tokP bindP
   rw [isT_tT]
   cases ht : tT sCom (tk L i)
   ·rfl
   ·simp only [if_true]
    rw [hx (i + 1) (by omega)]
    cases e1 : e L (i + 1) with
    | error k => rfl
    | ok r =>
      obtain ⟨y, j⟩ := r
      have := hs L (i + 1) y j e1
      exact manyR_fuel hs hx f f' _ j (by omega) (by omega) (by omega)
theorem many_fuel (hs : Strict e) (hx : ∀ j, lo ≤ j → ex j = e L j) {g : Nat} (hg : L.length < g) {i : Nat} (hi : lo ≤ i) : manyP L ex i = manyF e g L i := by
 unfold manyP manyF bindP
 rw [hx i hi]
 cases e1 : e L i with
 | error k => rfl
 | ok r =>
   obtain ⟨x, j⟩ := r
   have := hs L i x j e1
   exact manyR_fuel hs hx _ _ _ j (by omega) (by omega) (by omega)
theorem between_fuel (hs : Strict e) (hx : ∀ j, lo ≤ j → ex j = e L j) {g : Nat} (hg : L.length < g) (close : ByteArray) {i : Nat} (hi : lo ≤ i) : betweenP L ex close i = betweenF e g close L i := by
 unfold betweenP betweenF tokP bindP
 rw [isT_tT]
 cases tT close (tk L i)
 ·simp only [Bool.false_eq_true, if_false]
  rw [many_fuel hs hx hg hi]
  cases e1 : manyF e g L i with
  | error k => rfl
  | ok r =>
    obtain ⟨l, j⟩ := r
    dsimp only
    rw [← need_eq]
    rfl
 ·rfl
end
section
variable {fac : Nat → Except Nat (T1 × Nat)} {fa : Par T1} {lo g : Nat}
theorem bins_fuel {sub : Nat → Except Nat (T1 × Nat)} {su : Par T1} (hs : Strict su) (hx : ∀ j, lo ≤ j → sub j = su L j) (k : Nat) : ∀ (f f' : Nat) (x : T1) (i : Nat), lo ≤ i → L.length < i + f → L.length < i + f' → binsP L sub k f x i = binsF su k f' x L i
 | 0, 0, x, i, _, _, _ => rfl
 | 0, f' + 1, x, i, _, h, _ => by
   unfold binsF
   rw [stay (L := L) (i := i) (opT_no _) (by omega)]
   rfl
 | f + 1, 0, x, i, _, _, h => by
   unfold binsP
   rw [show isOp L i k = opT k (tk L i) from rfl, tk_end (by omega), opT_no]; rfl
 | f + 1, f' + 1, x, i, hl, h, h' => by
   unfold binsP binsF tokP bindP
   rw [show isOp L i k = opT k (tk L i) from rfl]
   cases ht : opT k (tk L i)
   ·rfl
   ·simp only [if_true]
    rw [hx (i + 1) (by omega)]
    cases e1 : su L (i + 1) with
    | error k => rfl
    | ok r =>
      obtain ⟨y, j⟩ := r
      have := hs L (i + 1) y j e1
      dsimp only
      by_cases hk : k = 0
      ·rw [if_pos hk, if_pos hk]; rfl
      ·rw [if_neg hk, if_neg hk]
       exact bins_fuel hs hx k f f' _ j (by omega) (by omega) (by omega)
theorem lev_fuel (hf : Good fa) (hs : Strict fa) (hx : ∀ j, lo ≤ j → fac j = fa L j) (hg : L.length < g) : ∀ (d : Nat) (i : Nat), lo ≤ i → levD L fac d i = levF fa g d L i
 | 0, i, hi => hx i hi
 | d + 1, i, hi => by
   have ih := fun j (hj : lo ≤ j) => lev_fuel hf hs hx hg d j hj
   have s1 := strict_levF g hf hs d
   unfold levD levF tokP
   rw [show signed L i (2 - d) = sgT (2 - d) (tk L i) from rfl]
   cases sgT (2 - d) (tk L i)
   ·simp only [Bool.false_eq_true, if_false, bindP]
    rw [ih i hi]
    cases e1 : levF fa g d L i with
    | error k => rfl
    | ok r =>
      obtain ⟨x, j⟩ := r
      have := s1 L i x j e1
      exact bins_fuel s1 ih _ _ _ x j (by omega) (by omega) (by omega)
   ·simp only [if_true, bindP]
    rw [ih (i + 1) (by omega)]
    cases e1 : levF fa g d L (i + 1) with
    | error k => rfl
    | ok r =>
      obtain ⟨x, j⟩ := r
      have := s1 L (i + 1) x j e1
      exact bins_fuel s1 ih _ _ _ _ j (by omega) (by omega) (by omega)
end
theorem fact_fuel {g : Nat} (hg : L.length < g) : ∀ (f f' i : Nat), L.length < i + f → L.length < i + f' → factP L f i = factF g f' L i
 | 0, f', i, h, _ => by
   rw [nope (fact_gs g f').1 (fact_gs g f').2 (by omega)]; rfl
 | f + 1, 0, i, _, h => by
   have he : L.length ≤ i := by omega
   unfold factP
   rw [isT_tT L i sPar, isT_tT L i sNot, isT_tT L i sCur]
   rw [if_neg (by rw [tk_end he]; decide), if_neg (by rw [tk_end he, tT_no]; simp), if_neg (by rw [tk_end he, tT_no]; simp), if_neg (by rw [tk_end he, tT_no]; simp)]
   unfold designP qualP nameP
   rw [tk_end he]
   rfl
 | f + 1, f' + 1, i, h, h' => by
   obtain ⟨f1, f2⟩ := fact_gs g f'
   have ih : ∀ j, i + 1 ≤ j → factP L f j = factF g f' L j := fun j hj => fact_fuel hg f f' j (by omega) (by omega)
   have el : ∀ j, i + 1 ≤ j → exprG L (factP L f) j = levF (factF g f') g 3 L j := fun j hj => lev_fuel f1 f2 ih hg 3 j hj
   have e1 := good_levF g f1 3
   have e2 := strict_levF g f1 f2 3
   have em : ∀ j, i + 1 ≤ j → elemP L (exprG L (factP L f)) j = elemF (levF (factF g f') g 3) L j := fun j hj => elem_fuel e2 el hj
   have em2 := strict_elemF e1 e2
   unfold factP factF tokP
   rw [isT_tT L i sPar, isT_tT L i sNot, isT_tT L i sCur]
   by_cases hk : 2 ≤ (tk L i).1.kind ∧ (tk L i).1.kind ≤ 4
   ·rw [if_pos hk, if_pos (show litT (tk L i) = true from by simp [litT, hk])]; rfl
   rw [if_neg hk, if_neg (show ¬ litT (tk L i) = true from by simpa [litT] using hk)]
   by_cases h1 : tT sPar (tk L i) = true
   ·rw [if_pos h1, if_pos h1]
    unfold bindP
    try dsimp only
    rw [el (i + 1) (by omega)]
    cases e3 : levF (factF g f') g 3 L (i + 1) with
    | error k => rfl
    | ok r =>
      obtain ⟨x, j⟩ := r
      dsimp only
      rw [← need_eq]
      rfl
   rw [if_neg h1, if_neg h1]
   by_cases h2 : tT sNot (tk L i) = true
   ·rw [if_pos h2, if_pos h2]
    unfold bindP
    try dsimp only
    rw [ih (i + 1) (by omega)]
    all_goals (cases factF g f' L (i + 1) <;> rfl)
   rw [if_neg h2, if_neg h2]
   by_cases h3 : tT sCur (tk L i) = true
   ·rw [if_pos h3, if_pos h3]
    unfold bindP
    try dsimp only
    rw [between_fuel em2 em hg _ (by omega)]
    all_goals (cases betweenF (elemF (levF (factF g f') g 3)) g sRuc L (i + 1) <;> rfl)
   rw [if_neg h3, if_neg h3]
   unfold posP bindP
   rw [design_fuel e1 e2 el hg]
   dsimp only
   cases e3 : designF (levF (factF g f') g 3) g L i with
   | error k => rfl
   | ok r =>
     obtain ⟨x, j⟩ := r
     have := strict_designF e1 g L i x j e3
     dsimp only
     unfold tailF tokP
     rw [isT_tT L j sCur, isT_tT L j sPar]
     by_cases h4 : plainT x = true ∧ tT sCur (tk L j) = true
     ·rw [if_pos h4, if_pos (show (plainT x && tT sCur (tk L j)) = true from by simp [h4])]
      unfold bindP
      try dsimp only
      rw [between_fuel em2 em hg _ (by omega)]
      all_goals (cases betweenF (elemF (levF (factF g f') g 3)) g sRuc L (j + 1) <;> rfl)
     rw [if_neg h4, if_neg (show ¬ (plainT x && tT sCur (tk L j)) = true from by simpa using h4)]
     by_cases h5 : tT sPar (tk L j) = true
     ·rw [if_pos h5, if_pos h5]
      unfold bindP
      try dsimp only
      rw [between_fuel e2 el hg _ (by omega)]
      all_goals (cases betweenF (levF (factF g f') g 3) g sRap L (j + 1) <;> rfl)
     rw [if_neg h5, if_neg h5]
     rfl
theorem expr_fuel {g : Nat} (hg : L.length < g) (i : Nat) : exprP L i = exprF g L i :=
 lev_fuel (lo := i) (fact_gs g g).1 (fact_gs g g).2 (fun j hj => fact_fuel hg _ _ j (by omega) (by omega)) hg 3 i (Nat.le_refl _)
theorem designE_fuel {g : Nat} (hg : L.length < g) (i : Nat) : designP L (exprP L) i = designF (exprF g) g L i :=
 design_fuel (good_exprF g) (strict_exprF g) (fun j _ => expr_fuel hg j) hg
theorem labels_fuel {g : Nat} (hg : L.length < g) (i : Nat) : labelsP L i = labelsF g L i := by
 have he : ∀ j, 0 ≤ j → elemP L (exprP L) j = elemF (exprF g) L j := fun j hj => elem_fuel (strict_exprF g) (fun j _ => expr_fuel hg j) hj
 unfold labelsP labelsF posP bindP
 dsimp only
 rw [many_fuel (strict_elemF (good_exprF g) (strict_exprF g)) he hg (Nat.zero_le _)]
 all_goals (cases manyF (elemF (exprF g)) g L i <;> rfl)
end
def contS : List ByteArray := [sDot, sHat, sBra, sCom, sRan, sPar, sCur] ++ ops 0 ++ ops 1 ++ ops 2
def Stops (t : PT) : Prop := ∀ s ∈ contS, tT s t = false
structure Near (L L2 : List PT) (d n : Nat) : Prop where
 tok : ∀ i, i < n → (tk L2 (i + d)).1 = (tk L i).1
 stop : Stops (tk L2 (n + d))
def Sim {α : Type} (R : α → α → Prop) (p p' : Par α) : Prop :=
 ∀ L L2 d n, Near L L2 d n → ∀ i a j, i ≤ n → p L i = .ok (a, j) → j ≤ n → ∃ a', p' L2 (i + d) = .ok (a', j + d) ∧ R a a'
section
variable {α β : Type} {R : α → α → Prop} {S : β → β → Prop}
end
def Bare (x y : T1) : Prop := (Fo.node x.1 x.2 .no).same (.node y.1 y.2 .no) = true
def BareL (l l' : List T1) : Prop := (forest l).same (forest l') = true
theorem bare_iff {x y : T1} : Bare x y ↔ x.1.kind = y.1.kind ∧ x.1.name = y.1.name ∧ x.1.n = y.1.n ∧ x.2.same y.2 = true := by
 simp [Bare, Fo.same, and_assoc]
theorem bare_refl (x : T1) : Bare x x := Fo.same_refl _
theorem bareL_nil : BareL [] [] := rfl
theorem bareL_cons {x y : T1} {l l' : List T1} (h : Bare x y) (h' : BareL l l') : BareL (x :: l) (y :: l') := by
 rw [bare_iff] at h
 obtain ⟨h1, h2, h3, h4⟩ := h
 simp only [BareL, forest, Fo.same, Bool.and_eq_true, decide_eq_true_eq]
 exact ⟨⟨⟨⟨h1, h2⟩, h3⟩, h4⟩, h'⟩
theorem bareL_snoc {y y' : T1} (h : Bare y y') : ∀ {l l' : List T1}, BareL l l' → BareL (l ++ [y]) (l' ++ [y'])
 | [], [], _ => bareL_cons h bareL_nil
 | [], _ :: _, e => by simp [BareL, forest, Fo.same] at e
 | _ :: _, [], e => by simp [BareL, forest, Fo.same] at e
 | x :: l, x' :: l', e => by
   simp only [BareL, forest, Fo.same, Bool.and_eq_true, decide_eq_true_eq] at e
   exact bareL_cons (bare_iff.2 ⟨e.1.1.1.1, e.1.1.1.2, e.1.1.2, e.1.2⟩) (bareL_snoc h e.2)
theorem bare_mk (kind : Nat) (p p' : Nat × Nat) (name : ByteArray) (n : Int) {l l' : List T1} (h : BareL l l') : Bare (mk kind p name n l) (mk kind p' name n l') :=
 bare_iff.2 ⟨rfl, rfl, rfl, h⟩
theorem bareL_1 {x y : T1} (h : Bare x y) : BareL [x] [y] := bareL_cons h bareL_nil
theorem bareL_2 {x y x' y' : T1} (h : Bare x y) (h' : Bare x' y') : BareL [x, x'] [y, y'] := bareL_cons h (bareL_1 h')
theorem plainF_same : ∀ f g : Fo, f.same g = true → plainF f = plainF g
 | .no, .no, _ => rfl
 | .no, .node .., h => by simp [Fo.same] at h
 | .node .., .no, h => by simp [Fo.same] at h
 | .node d k r, .node d' k' r', h => by
   simp only [Fo.same, Bool.and_eq_true, decide_eq_true_eq] at h
   unfold plainF
   rw [h.1.1.1.1, plainF_same k k' h.1.2]
theorem plainT_bare {x y : T1} (h : Bare x y) : plainT x = plainT y := plainF_same _ _ h
section
variable {e : Par T1} (he : Good e) (hs : Strict e) (se : Sim Bare e e)
include he se
end
section
variable {su : Par T1} (hg : Good su) (ss : Sim Bare su su)
include hg ss
end
section
variable {fac : Par T1} (hg : Good fac) (hs : Strict fac) (sf : Sim Bare fac fac) (g : Nat)
include hg hs sf
end
end Go.Proofs.YtkemhmfdooghkaaGreatDoor.Ex
namespace Go.Proofs.YtkemhmfdooghkaaGreatDoor.Ex
open Tr (Nd Fo)
open Lx (Tk noTk scanL lex at_ item isB twos ones symN oneN bt plainT lex_tok lex_app lex_nil scan_lex)
def rowP (s : List UInt8) : List PT := match scanL s with
 | .error _ => []
 | .ok l => l.dropLast.map (fun x => (x.1, at_ s x.2.1, at_ s x.2.2))
section
variable {L : List PT} {i j : Nat} {x y : T1}
end
end Go.Proofs.YtkemhmfdooghkaaGreatDoor.Ex
