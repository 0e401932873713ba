import Derived.Test.YtkemhmfdooghkaaGreatDoorX5
set_option linter.unusedSimpArgs false
set_option linter.unusedVariables false
set_option maxRecDepth 100000
set_option maxHeartbeats 6400000
namespace Go.Proofs.YtkemhmfdooghkaaGreatDoor
namespace Ex
open Tr (Nd Fo)
open Lx (Tk noTk)
abbrev Par (α : Type) := List PT → Nat → Except Nat (α × Nat)
def posE {α : Type} : Except Nat (α × Nat) → Nat
 | .ok (_, j) => j
 | .error k => k
def Lock {α : Type} (m : Nat) (r r' : Except Nat (α × Nat)) : Prop :=
 (r' = r ∧ (match r with | .ok (_, j) => j ≤ m | .error k => k < m)) ∨ (posE r' = m ∧ (match r with | .ok (_, j) => m < j | .error k => m ≤ k))
structure Good {α : Type} (p : Par α) : Prop where
 mono : ∀ L i, i ≤ posE (p L i)
 end_ : ∀ L i, L.length ≤ i → posE (p L i) = i
 lock : ∀ L m i, i ≤ m → m ≤ L.length → Lock m (p L i) (p (L.take m) i)
def Strict {α : Type} (p : Par α) : Prop := ∀ L i a j, p L i = .ok (a, j) → i < j
def bindP {α β : Type} (p : Par α) (q : α → Par β) : Par β := fun L i => match p L i with
 | .error k => .error k
 | .ok (a, j) => q a L j
def tokP {α : Type} (t : PT → Bool) (A : PT → Par α) (B : Par α) : Par α := fun L i => if t (tk L i) = true then A (tk L i) L (i + 1) else B L i
def retP {α : Type} (a : α) : Par α := fun _ i => .ok (a, i)
def failP {α : Type} : Par α := fun _ i => .error i
def posP {α : Type} (q : PT → Par α) : Par α := fun L i => q (tk L i) L i
theorem tk_end {L : List PT} {i : Nat} (h : L.length ≤ i) : tk L i = noPT := by unfold tk; rw [List.getElem?_eq_none h]; rfl
theorem tk_take {L : List PT} {m i : Nat} (h : i < m) : tk (L.take m) i = tk L i := by unfold tk; rw [List.getElem?_take_of_lt h]
theorem take_len {L : List PT} {m : Nat} (h : m ≤ L.length) : (L.take m).length = m := by rw [List.length_take]; omega
section
variable {α β : Type}
theorem Good.congr {p p' : Par α} (h : Good p) (e : p' = p) : Good p' := by subst e; exact h
theorem Strict.congr {p p' : Par α} (h : Strict p) (e : p' = p) : Strict p' := by subst e; exact h
theorem good_ret (a : α) : Good (retP a) := ⟨fun L i => Nat.le_refl _, fun L i _ => rfl, fun L m i h _ => .inl ⟨rfl, h⟩⟩
theorem good_fail : Good (failP (α := α)) := ⟨fun L i => Nat.le_refl _, fun L i _ => rfl, fun L m i h _ => by
 rcases Nat.lt_or_ge i m with h1 | h1
 ·exact .inl ⟨rfl, h1⟩
 ·have : i = m := by omega
  subst this
  exact .inr ⟨rfl, Nat.le_refl _⟩⟩
theorem strict_fail : Strict (failP (α := α)) := fun L i a j h => by cases h
theorem good_bind {p : Par α} {q : α → Par β} (hp : Good p) (hq : ∀ a, Good (q a)) : Good (bindP p q) := by
 refine ⟨fun L i => ?_, fun L i h => ?_, fun L m i him hm => ?_⟩
 ·have h1 := hp.mono L i
  unfold bindP
  cases e : p L i with
  | error k => rw [e] at h1; exact h1
  | ok r =>
    obtain ⟨a, j⟩ := r
    rw [e] at h1
    exact Nat.le_trans h1 ((hq a).mono L j)
 ·have h1 := hp.end_ L i h
  unfold bindP
  cases e : p L i with
  | error k => rw [e] at h1; exact h1
  | ok r =>
    obtain ⟨a, j⟩ := r
    rw [e] at h1
    have h2 : j = i := h1
    subst h2
    exact (hq a).end_ L j h
 ·unfold bindP
  rcases hp.lock L m i him hm with ⟨h1, h2⟩ | ⟨h1, h2⟩
  ·rw [h1]
   cases e : p L i with
   | error k => rw [e] at h2; exact .inl ⟨rfl, h2⟩
   | ok r =>
     obtain ⟨a, j⟩ := r
     rw [e] at h2
     exact (hq a).lock L m j h2 hm
  ·right
   constructor
   ·cases e : p (L.take m) i with
    | error k => rw [e] at h1; exact h1
    | ok r =>
      obtain ⟨a, j⟩ := r
      rw [e] at h1
      have h3 : j = m := h1
      subst h3
      exact (hq a).end_ _ _ (by rw [take_len hm]; exact Nat.le_refl _)
   ·cases e : p L i with
    | error k => rw [e] at h2; exact h2
    | ok r =>
      obtain ⟨a, j⟩ := r
      rw [e] at h2
      have h3 : m < j := h2
      have h4 := (hq a).mono L j
      dsimp only
      cases e2 : q a L j with
      | error k => rw [e2] at h4; exact Nat.le_trans (Nat.le_of_lt h3) h4
      | ok r2 =>
        obtain ⟨b, j2⟩ := r2
        rw [e2] at h4
        exact Nat.lt_of_lt_of_le h3 h4
theorem strict_bind {p : Par α} {q : α → Par β} (hp : Strict p) (hq : ∀ a, Good (q a)) : Strict (bindP p q) := by
 intro L i b j h
 unfold bindP at h
 cases e : p L i with
 | error k => rw [e] at h; cases h
 | ok r =>
   obtain ⟨a, j1⟩ := r
   rw [e] at h
   have h1 := hp L i a j1 e
   have h2 := (hq a).mono L j1
   dsimp only at h
   rw [h] at h2
   exact Nat.lt_of_lt_of_le h1 h2
theorem good_tok {t : PT → Bool} {A : PT → Par α} {B : Par α} (t0 : t noPT = false) (hA : ∀ x, Good (A x)) (hB : Good B) : Good (tokP t A B) := by
 refine ⟨fun L i => ?_, fun L i h => ?_, fun L m i him hm => ?_⟩
 ·unfold tokP
  split
  ·exact Nat.le_trans (Nat.le_succ i) ((hA _).mono L (i + 1))
  ·exact hB.mono L i
 ·unfold tokP
  rw [tk_end h, t0, if_neg (by simp)]
  exact hB.end_ L i h
 ·rcases Nat.lt_or_ge i m with h1 | h1
  ·unfold tokP
   rw [tk_take h1]
   split
   ·exact (hA _).lock L m (i + 1) h1 hm
   ·exact hB.lock L m i him hm
  ·have : i = m := by omega
   subst this
   unfold tokP
   rw [tk_end (L := L.take i) (i := i) (by rw [take_len hm]; exact Nat.le_refl _), t0, if_neg (c := false = true) (by simp)]
   split
   ·refine .inr ⟨hB.end_ _ _ (by rw [take_len hm]; exact Nat.le_refl _), ?_⟩
    have h2 := (hA (tk L i)).mono L (i + 1)
    cases e : A (tk L i) L (i + 1) with
    | error k => rw [e] at h2; exact Nat.le_trans (Nat.le_succ i) h2
    | ok r =>
      obtain ⟨b, j2⟩ := r
      rw [e] at h2
      exact h2
   ·exact hB.lock L i i nl hm
theorem strict_tok {t : PT → Bool} {A : PT → Par α} {B : Par α} (hA : ∀ x, Good (A x)) (hB : Strict B) : Strict (tokP t A B) := by
 intro L i a j h
 unfold tokP at h
 split at h
 ·have h2 := (hA (tk L i)).mono L (i + 1)
  rw [h] at h2
  exact h2
 ·exact hB L i a j h
theorem good_pos {q : PT → Par α} (hq : ∀ x, Good (q x)) (hs : ∀ x, Strict (q x)) : Good (posP q) := by
 refine ⟨fun L i => (hq _).mono L i, fun L i h => (hq _).end_ L i h, fun L m i him hm => ?_⟩
 rcases Nat.lt_or_ge i m with h1 | h1
 ·unfold posP
  rw [tk_take h1]
  exact (hq _).lock L m i him hm
 ·have : i = m := by omega
  subst this
  refine .inr ⟨(hq _).end_ _ _ (by rw [take_len hm]; exact Nat.le_refl _), ?_⟩
  have h2 := (hq (tk L i)).mono L i
  unfold posP
  cases e : q (tk L i) L i with
  | error k => rw [e] at h2; exact h2
  | ok r =>
    obtain ⟨b, j2⟩ := r
    exact hs _ L i b j2 e
theorem strict_pos {q : PT → Par α} (hs : ∀ x, Strict (q x)) : Strict (posP q) := fun L i a j h => hs _ L i a j h
end
def tT (s : ByteArray) (t : PT) : Bool := isSW t && decide (t.1.text = s)
theorem tT_no (s : ByteArray) : tT s noPT = false := rfl
theorem nameP_eq : nameP = tokP (fun t => decide (t.1.kind = 1)) (fun x => retP x) failP := by
 funext L i; simp [nameP, tokP, retP, failP]
theorem good_name : Good nameP := (good_tok rfl (fun x => good_ret x) good_fail).congr nameP_eq
theorem strict_name : Strict nameP := (strict_tok (fun x => good_ret x) strict_fail).congr nameP_eq
def needF {α : Type} (s : ByteArray) (p : Par α) : Par α := tokP (tT s) (fun _ => p) failP
theorem good_needF {α : Type} (s : ByteArray) {p : Par α} (h : Good p) : Good (needF s p) := good_tok (tT_no s) (fun _ => h) good_fail
def dotsF : Nat → T1 → Par T1
 | 0, x => retP x
 | f + 1, x => tokP (tT sDot) (fun t0 => bindP nameP (fun t => dotsF f (mk 2 t0.2.1 t.1.text 0 [x]))) (retP x)
theorem good_dotsF : ∀ (f : Nat) (x : T1), Good (dotsF f x)
 | 0, x => good_ret x
 | f + 1, x => good_tok (tT_no _) (fun _ => good_bind good_name fun _ => good_dotsF f _) (good_ret x)
def qualF (g : Nat) : Par T1 := bindP nameP (fun t => dotsF g (mk 1 t.2.1 t.1.text 0 []))
theorem good_qualF (g : Nat) : Good (qualF g) := good_bind good_name fun _ => good_dotsF g _
theorem strict_qualF (g : Nat) : Strict (qualF g) := strict_bind strict_name fun _ => good_dotsF g _
section
variable (e : Par T1)
def commasF : Nat → T1 → Par T1
 | 0, x => retP x
 | f + 1, x => tokP (tT sCom) (fun t0 => bindP e (fun y => commasF f (mk 3 t0.2.1 sNil 0 [x, y]))) (retP x)
def desF (g : Nat) : Nat → T1 → Par T1
 | 0, x => retP x
 | f + 1, x => tokP (tT sDot) (fun t0 => bindP nameP (fun t => desF g f (mk 2 t0.2.1 t.1.text 0 [x])))
    (tokP (tT sHat) (fun t0 => desF g f (mk 4 t0.2.1 sNil 0 [x]))
    (tokP (tT sBra) (fun t0 => bindP e (fun y => bindP (commasF e g (mk 3 t0.2.1 sNil 0 [x, y])) (fun z => needF sKet (desF g f z)))) (retP x)))
def designF (g : Nat) : Par T1 := bindP (qualF g) (desF e g g)
def elemF : Par T1 := posP fun t0 => bindP e (fun x => tokP (tT sRan) (fun _ => bindP e (fun y => retP (mk 9 t0.2.1 sNil 0 [x, y]))) (retP x))
def manyRF : Nat → List T1 → Par (List T1)
 | 0, acc => retP acc
 | f + 1, acc => tokP (tT sCom) (fun _ => bindP e (fun y => manyRF f (acc ++ [y]))) (retP acc)
def manyF (g : Nat) : Par (List T1) := bindP e (fun x => manyRF e g [x])
def betweenF (g : Nat) (close : ByteArray) : Par (List T1) := tokP (tT close) (fun _ => retP []) (bindP (manyF e g) (fun l => needF close (retP l)))
variable {e}
theorem good_commasF (he : Good e) : ∀ (f : Nat) (x : T1), Good (commasF e f x)
 | 0, x => good_ret x
 | f + 1, x => good_tok (tT_no _) (fun _ => good_bind he fun _ => good_commasF he f _) (good_ret x)
theorem good_desF (he : Good e) (g : Nat) : ∀ (f : Nat) (x : T1), Good (desF e g f x)
 | 0, x => good_ret x
 | f + 1, x => good_tok (tT_no _) (fun _ => good_bind good_name fun _ => good_desF he g f _)
    (good_tok (tT_no _) (fun _ => good_desF he g f _)
    (good_tok (tT_no _) (fun _ => good_bind he fun _ => good_bind (good_commasF he g _) fun _ => good_needF _ (good_desF he g f _)) (good_ret x)))
theorem good_designF (he : Good e) (g : Nat) : Good (designF e g) := good_bind (good_qualF g) fun _ => good_desF he g g _
theorem strict_designF (he : Good e) (g : Nat) : Strict (designF e g) := strict_bind (strict_qualF g) fun _ => good_desF he g g _
theorem good_elem_in (he : Good e) (t0 : PT) : Good (bindP e (fun x => tokP (tT sRan) (fun _ => bindP e (fun y => retP (mk 9 t0.2.1 sNil 0 [x, y]))) (retP x))) :=
 good_bind he fun _ => good_tok (tT_no _) (fun _ => good_bind he fun _ => good_ret _) (good_ret _)
theorem strict_elem_in (he : Good e) (hs : Strict e) (t0 : PT) : Strict (bindP e (fun x => tokP (tT sRan) (fun _ => bindP e (fun y => retP (mk 9 t0.2.1 sNil 0 [x, y]))) (retP x))) :=
 strict_bind hs fun _ => good_tok (tT_no _) (fun _ => good_bind he fun _ => good_ret _) (good_ret _)
theorem good_elemF (he : Good e) (hs : Strict e) : Good (elemF e) := good_pos (good_elem_in he) (strict_elem_in he hs)
theorem strict_elemF (he : Good e) (hs : Strict e) : Strict (elemF e) := strict_pos (strict_elem_in he hs)
theorem good_manyRF (he : Good e) : ∀ (f : Nat) (acc : List T1), Good (manyRF e f acc)
 | 0, acc => good_ret acc
 | f + 1, acc => good_tok (tT_no _) (fun _ => good_bind he fun _ => good_manyRF he f _) (good_ret acc)
theorem good_manyF (he : Good e) (g : Nat) : Good (manyF e g) := good_bind he fun _ => good_manyRF he g _
theorem strict_manyF (he : Good e) (hs : Strict e) (g : Nat) : Strict (manyF e g) := strict_bind hs fun _ => good_manyRF he g _
theorem good_betweenF (he : Good e) (g : Nat) (close : ByteArray) : Good (betweenF e g close) :=
 good_tok (tT_no _) (fun _ => good_ret _) (good_bind (good_manyF he g) fun _ => good_needF _ (good_ret _))
end
def opT (k : Nat) (t : PT) : Bool := isSW t && (ops k).any (fun s => decide (s = t.1.text))
def sgT (k : Nat) (t : PT) : Bool := decide (k = 1) && (tT sPlu t || tT sMin t)
theorem opT_no (k : Nat) : opT k noPT = false := rfl
theorem sgT_no (k : Nat) : sgT k noPT = false := by simp [sgT, tT_no]
section
variable (sub : Par T1) (k : Nat)
def binsF : Nat → T1 → Par T1
 | 0, x => retP x
 | f + 1, x => tokP (opT k) (fun t0 => bindP sub (fun y => if k = 0 then retP (mk 11 t0.2.1 t0.1.text 0 [x, y]) else binsF f (mk 11 t0.2.1 t0.1.text 0 [x, y]))) (retP x)
end
theorem good_binsF {sub : Par T1} (k : Nat) (hs : Good sub) : ∀ (f : Nat) (x : T1), Good (binsF sub k f x)
 | 0, x => good_ret x
 | f + 1, x => good_tok (opT_no k) (fun _ => good_bind hs fun _ => by
    split
    ·exact good_ret _
    ·exact good_binsF k hs f _) (good_ret x)
section
variable (fac : Par T1) (g : Nat)
def levF : Nat → Par T1
 | 0 => fac
 | d + 1 => tokP (sgT (2 - d)) (fun t0 => bindP (levF d) (fun x => binsF (levF d) (2 - d) g (mk 12 t0.2.1 t0.1.text 0 [x]))) (bindP (levF d) (fun x => binsF (levF d) (2 - d) g x))
variable {fac}
theorem good_levF (hf : Good fac) : ∀ d, Good (levF fac g d)
 | 0 => hf
 | d + 1 => good_tok (sgT_no _) (fun _ => good_bind (good_levF hf d) fun _ => good_binsF _ (good_levF hf d) g _) (good_bind (good_levF hf d) fun _ => good_binsF _ (good_levF hf d) g _)
theorem strict_levF (hf : Good fac) (hs : Strict fac) : ∀ d, Strict (levF fac g d)
 | 0 => hs
 | d + 1 => strict_tok (fun _ => good_bind (good_levF g hf d) fun _ => good_binsF _ (good_levF g hf d) g _) (strict_bind (strict_levF hf hs d) fun _ => good_binsF _ (good_levF g hf d) g _)
end
def litT (t : PT) : Bool := decide (2 ≤ t.1.kind ∧ t.1.kind ≤ 4)
def tailF (e : Par T1) (g : Nat) (t0 : PT) (x : T1) : Par T1 :=
 tokP (fun t => plainT x && tT sCur t) (fun _ => bindP (betweenF (elemF e) g sRuc) (fun l => retP (mk 8 t0.2.1 sNil 0 (x :: l))))
  (tokP (tT sPar) (fun tj => bindP (betweenF e g sRap) (fun l => retP (mk 10 tj.2.1 sNil 0 (x :: l)))) (retP x))
def factF (g : Nat) : Nat → Par T1
 | 0 => failP
 | f + 1 =>
   tokP litT (fun t => retP (mk (t.1.kind + 3) t.2.1 t.1.text t.1.n []))
   (tokP (tT sPar) (fun _ => bindP (levF (factF g f) g 3) (fun x => needF sRap (retP x)))
   (tokP (tT sNot) (fun t0 => bindP (factF g f) (fun x => retP (mk 12 t0.2.1 sNot 0 [x])))
   (tokP (tT sCur) (fun t0 => bindP (betweenF (elemF (levF (factF g f) g 3)) g sRuc) (fun l => retP (mk 8 t0.2.1 sNil 0 (zeroT :: l))))
   (posP fun t0 => bindP (designF (levF (factF g f) g 3) g) (tailF (levF (factF g f) g 3) g t0)))))
theorem good_tailF {e : Par T1} (he : Good e) (hs : Strict e) (g : Nat) (t0 : PT) (x : T1) : Good (tailF e g t0 x) :=
 good_tok (by simp [tT_no]) (fun _ => good_bind (good_betweenF (good_elemF he hs) g _) fun _ => good_ret _)
  (good_tok (tT_no _) (fun _ => good_bind (good_betweenF he g _) fun _ => good_ret _) (good_ret x))
theorem fact_gs (g : Nat) : ∀ f, Good (factF g f) ∧ Strict (factF g f)
 | 0 => ⟨good_fail, strict_fail⟩
 | f + 1 => by
   obtain ⟨h1, h2⟩ := fact_gs g f
   have e1 := good_levF g h1 3
   have e2 := strict_levF g h1 h2 3
   have d1 : ∀ t0, Strict (bindP (designF (levF (factF g f) g 3) g) (tailF (levF (factF g f) g 3) g t0)) := fun t0 => strict_bind (strict_designF e1 g) fun _ => good_tailF e1 e2 g t0 _
   have d2 : ∀ t0, Good (bindP (designF (levF (factF g f) g 3) g) (tailF (levF (factF g f) g 3) g t0)) := fun t0 => good_bind (good_designF e1 g) fun _ => good_tailF e1 e2 g t0 _
   exact ⟨good_tok rfl (fun _ => good_ret _) (good_tok (tT_no _) (fun _ => good_bind e1 fun _ => good_needF _ (good_ret _))
    (good_tok (tT_no _) (fun _ => good_bind h1 fun _ => good_ret _)
    (good_tok (tT_no _) (fun _ => good_bind (good_betweenF (good_elemF e1 e2) g _) fun _ => good_ret _) (good_pos d2 d1)))),
    strict_tok (fun _ => good_ret _) (strict_tok (fun _ => good_bind e1 fun _ => good_needF _ (good_ret _))
     (strict_tok (fun _ => good_bind h1 fun _ => good_ret _)
     (strict_tok (fun _ => good_bind (good_betweenF (good_elemF e1 e2) g _) fun _ => good_ret _) (strict_pos d1))))⟩
def exprF (g : Nat) : Par T1 := levF (factF g g) g 3
theorem good_exprF (g : Nat) : Good (exprF g) := good_levF g (fact_gs g g).1 3
theorem strict_exprF (g : Nat) : Strict (exprF g) := strict_levF g (fact_gs g g).1 (fact_gs g g).2 3
def labelsF (g : Nat) : Par T1 := posP fun t0 => bindP (manyF (elemF (exprF g)) g) (fun l => retP (mk 29 t0.2.1 sNil 0 l))
theorem good_labelsF (g : Nat) : Good (labelsF g) :=
 good_pos (fun _ => good_bind (good_manyF (good_elemF (good_exprF g) (strict_exprF g)) g) fun _ => good_ret _) (fun _ => strict_bind (strict_manyF (good_elemF (good_exprF g) (strict_exprF g)) (strict_elemF (good_exprF g) (strict_exprF g)) g) fun _ => good_ret _)
section
variable {L : List PT}
section
variable {ex : Nat → Except Nat (T1 × Nat)} {e : Par T1} {lo : Nat}
end
section
variable {fac : Nat → Except Nat (T1 × Nat)} {fa : Par T1} {lo g : Nat}
end
end
def contS : List ByteArray := [sDot, sHat, sBra, sCom, sRan, sPar, sCur] ++ ops 0 ++ ops 1 ++ ops 2
def Stops (t : PT) : Prop := ∀ s ∈ contS, tT s t = false
structure Near (L L2 : List PT) (d n : Nat) : Prop where
 tok : ∀ i, i < n → (tk L2 (i + d)).1 = (tk L i).1
 stop : Stops (tk L2 (n + d))
def Sim {α : Type} (R : α → α → Prop) (p p' : Par α) : Prop :=
 ∀ L L2 d n, Near L L2 d n → ∀ i a j, i ≤ n → p L i = .ok (a, j) → j ≤ n → ∃ a', p' L2 (i + d) = .ok (a', j + d) ∧ R a a'
section
variable {α β : Type} {R : α → α → Prop} {S : β → β → Prop}
end
def Bare (x y : T1) : Prop := (Fo.node x.1 x.2 .no).same (.node y.1 y.2 .no) = true
section
variable {e : Par T1} (he : Good e) (hs : Strict e) (se : Sim Bare e e)
include he se
end
section
variable {su : Par T1} (hg : Good su) (ss : Sim Bare su su)
include hg ss
end
section
variable {fac : Par T1} (hg : Good fac) (hs : Strict fac) (sf : Sim Bare fac fac) (g : Nat)
include hg hs sf
end
end Ex
namespace Ex
open Tr (Nd Fo)
open Lx (Tk noTk scanL lex at_ item isB twos ones symN oneN bt plainT lex_tok lex_app lex_nil scan_lex)
def rowP (s : List UInt8) : List PT := match scanL s with
 | .error _ => []
 | .ok l => l.dropLast.map (fun x => (x.1, at_ s x.2.1, at_ s x.2.2))
theorem row_some {s : List UInt8} (hs : s.length ≤ 16384) {l : List Tk} (h : lex s = some l) : (rowP s).map (·.1) = l := by
 rw [scan_lex hs] at h
 unfold rowP
 cases e : scanL s with
 | error k => rw [e] at h; cases h
 | ok x =>
   rw [e] at h
   cases h
   simp [Function.comp_def]
theorem tk_map (L : List PT) (i : Nat) : (tk L i).1 = ((L.map (·.1))[i]?).getD noTk := by
 unfold tk
 rw [List.getElem?_map]
 all_goals (cases L[i]? <;> rfl)
section
variable {L : List PT} {i j : Nat} {x y : T1}
end
theorem item_par (r : List UInt8) (h : r.head? ≠ some 42) : item (40 :: r) = .tok ⟨5, sPar, 0⟩ 1 := by
 have h2 : (40 :: r).take 2 ≠ [40, 42] := by
  rcases r with _ | ⟨a, r⟩
  ·simp
  ·intro e; apply h; simp at e; simp [e]
 have h3 : symN (40 :: r) = 1 := by
  unfold symN
  rw [if_neg, if_pos]
  ·simp [ones]
  ·rcases r with _ | ⟨a, r⟩ <;> simp [twos]
 unfold item
 rw [if_neg (by simp [isB]), if_neg h2]
 have : oneN (40 :: r) = .ok (⟨5, sPar, 0⟩, 1) := by
  unfold oneN
  simp only [List.head?_cons, Option.getD_some, h3]
  rfl
 rw [this]
theorem item_rap (r : List UInt8) : item (41 :: r) = .tok ⟨5, sRap, 0⟩ 1 := by
 have h3 : symN (41 :: r) = 1 := by
  unfold symN
  rw [if_neg, if_pos]
  ·simp [ones]
  ·rcases r with _ | ⟨a, r⟩ <;> simp [twos]
 unfold item
 rw [if_neg (by simp [isB]), if_neg (by simp)]
 have : oneN (41 :: r) = .ok (⟨5, sRap, 0⟩, 1) := by
  unfold oneN
  simp only [List.head?_cons, Option.getD_some, h3]
  rfl
 rw [this]
end Ex
namespace Ex
open Tr (Nd Fo)
open Lx (Tk noTk)
def cntT (x : T1) : Nat := (Fo.node x.1 x.2 .no).count
def Grow {α : Type} (c : α → Nat) (k : Nat) (p : Par α) : Prop := ∀ L i a j, p L i = .ok (a, j) → c a + i ≤ k + j
section
variable {α β : Type} {c : α → Nat} {c' : β → Nat} {k k' : Nat}
end
section
variable {e : Par T1} (ge : Grow cntT 0 e)
include ge
end
end Ex
namespace St
open Go.RowKit
open Tr (Nd Fo)
open Lx (Tk noTk)
open Ex
def Lock2 {α : Type} (m : Nat) (r r' : Except Nat (α × Nat)) : Prop :=
 (r' = r ∧ (match r with | .ok (_, j) => j ≤ m | .error k => k < m)) ∨ (posE r' = m ∧ m ≤ posE r)
structure Good2 {α : Type} (p : Par α) : Prop where
 mono : ∀ L i, i ≤ posE (p L i)
 end_ : ∀ L i, L.length ≤ i → posE (p L i) = i
 lock : ∀ L m i, i ≤ m → m ≤ L.length → Lock2 m (p L i) (p (L.take m) i)
section
variable {α β : Type}
theorem g2_of {p : Par α} (h : Ex.Good p) : Good2 p := ⟨h.mono, h.end_, fun L m i hi hm => by
 rcases h.lock L m i hi hm with h1 | ⟨h1, h2⟩
 ·exact .inl h1
 ·refine .inr ⟨h1, ?_⟩
  cases e : p L i with
  | error k => rw [e] at h2; exact h2
  | ok r => obtain ⟨a, j⟩ := r; rw [e] at h2; exact Nat.le_of_lt h2⟩
theorem g2_ret (a : α) : Good2 (retP a) := g2_of (good_ret a)
theorem g2_fail : Good2 (failP (α := α)) := g2_of good_fail
theorem g2_end {p : Par α} (h : Good2 p) {L : List PT} {m : Nat} (hm : m ≤ L.length) : posE (p (L.take m) m) = m := h.end_ _ _ (by rw [Ex.take_len hm]; exact Nat.le_refl _)
theorem g2_bind {p : Par α} {q : α → Par β} (hp : Good2 p) (hq : ∀ a, Good2 (q a)) : Good2 (bindP p q) := by
 have hmono : ∀ L i, posE (p L i) ≤ posE (bindP p q L i) := by
  intro L i
  unfold bindP
  cases e : p L i with
  | error k => exact Nat.le_refl _
  | ok r => obtain ⟨a, j⟩ := r; exact (hq a).mono L j
 refine ⟨fun L i => Nat.le_trans (hp.mono L i) (hmono L i), fun L i h => ?_, fun L m i him hm => ?_⟩
 ·have h1 := hp.end_ L i h
  unfold bindP
  cases e : p L i with
  | error k => rw [e] at h1; exact h1
  | ok r =>
    obtain ⟨a, j⟩ := r
    rw [e] at h1
    have h1 : j = i := h1
    subst h1
    exact (hq a).end_ L j h
 ·have hM := hmono L i
  rcases hp.lock L m i him hm with ⟨h1, h2⟩ | ⟨h1, h2⟩
  ·cases e : p L i with
   | error k =>
     rw [e] at h1 h2
     refine .inl ⟨by unfold bindP; rw [h1, e], ?_⟩
     unfold bindP
     rw [e]
     exact h2
   | ok r =>
     obtain ⟨a, j⟩ := r
     rw [e] at h1 h2
     have := (hq a).lock L m j h2 hm
     unfold bindP
     rw [h1, e]
     exact this
  ·refine .inr ⟨?_, Nat.le_trans h2 hM⟩
   unfold bindP
   cases e : p (L.take m) i with
   | error k => rw [e] at h1; exact h1
   | ok r =>
     obtain ⟨a, j⟩ := r
     rw [e] at h1
     have h1 : j = m := h1
     subst h1
     exact g2_end (hq a) hm
theorem g2_pos {q : PT → Par α} (hq : ∀ x, Good2 (q x)) : Good2 (posP q) := by
 refine ⟨fun L i => (hq _).mono L i, fun L i h => (hq _).end_ L i h, fun L m i him hm => ?_⟩
 rcases Nat.lt_or_ge i m with h1 | h1
 ·unfold posP
  rw [tk_take h1]
  exact (hq _).lock L m i him hm
 ·have : i = m := by omega
  subst this
  exact .inr ⟨g2_end (hq _) hm, (hq _).mono L i⟩
theorem g2_tok {t : PT → Bool} {A : PT → Par α} {B : Par α} (t0 : t noPT = false) (hA : ∀ x, Good2 (A x)) (hB : Good2 B) : Good2 (tokP t A B) := by
 have hmono : ∀ L i, i ≤ posE (tokP t A B L i) := by
  intro L i
  unfold tokP
  split
  ·exact Nat.le_trans (Nat.le_succ i) ((hA _).mono L (i + 1))
  ·exact hB.mono L i
 have hend : ∀ L i, L.length ≤ i → posE (tokP t A B L i) = i := by
  intro L i h
  unfold tokP
  rw [tk_end h, if_neg (by rw [t0]; simp)]
  exact hB.end_ L i h
 refine ⟨hmono, hend, fun L m i him hm => ?_⟩
 rcases Nat.lt_or_ge i m with h1 | h1
 ·unfold tokP
  rw [tk_take h1]
  split
  ·exact (hA _).lock L m (i + 1) h1 hm
  ·exact hB.lock L m i him hm
 ·have : i = m := by omega
  subst this
  exact .inr ⟨hend _ _ (by rw [Ex.take_len hm]; exact Nat.le_refl _), hmono L i⟩
theorem g2_need {s : ByteArray} {p : Par α} (h : Good2 p) : Good2 (needF s p) := g2_tok (tT_no s) (fun _ => h) g2_fail
theorem g2_le {p : Par α} (h : Good2 p) {L : List PT} {i : Nat} (hi : i ≤ L.length) : posE (p L i) ≤ L.length := by
 have h1 := h.lock L L.length i hi nl
 rw [List.take_length] at h1
 rcases h1 with ⟨_, h1⟩ | ⟨h1, _⟩
 ·cases e : p L i with
  | error j => rw [e] at h1; exact Nat.le_of_lt h1
  | ok x => obtain ⟨x, j⟩ := x; rw [e] at h1; exact h1
 ·exact Nat.le_of_eq h1
theorem g2_max {p : Par α} (h : Good2 p) (L : List PT) (i : Nat) : i ≤ posE (p L i) ∧ (i ≤ L.length → posE (p L i) ≤ L.length) ∧ (L.length ≤ i → posE (p L i) = i) := ⟨h.mono L i, g2_le h, h.end_ L i⟩
theorem g2_at {p : Par α} (h : Good2 p) {L : List PT} {i m : Nat} (hi : i ≤ m) (hm : m ≤ posE (p L i)) (hl : m ≤ L.length) : (∃ y j, p (L.take m) i = .ok (y, j) ∧ j ≤ m) ∨ p (L.take m) i = .error m := by
 rcases h.lock L m i hi hl with ⟨h1, h2⟩ | ⟨h1, _⟩
 ·rw [h1]
  cases e : p L i with
  | error j =>
    rw [e] at h2 hm
    have h3 : j < m := h2
    have h4 : m ≤ j := hm
    omega
  | ok x => obtain ⟨x, j⟩ := x; rw [e] at h2; exact .inl ⟨x, j, rfl, h2⟩
 ·cases e : p (L.take m) i with
  | error j => rw [e] at h1; exact .inr (by rw [show j = m from h1])
  | ok x => obtain ⟨x, j⟩ := x; rw [e] at h1; exact .inl ⟨x, j, rfl, Nat.le_of_eq h1⟩
end
abbrev sSem : ByteArray := ⟨#[59]⟩
abbrev sAsg : ByteArray := ⟨#[58, 61]⟩
abbrev sCol : ByteArray := ⟨#[58]⟩
abbrev sBar : ByteArray := ⟨#[124]⟩
abbrev sIf : ByteArray := ⟨#[73, 70]⟩
abbrev sThen : ByteArray := ⟨#[84, 72, 69, 78]⟩
abbrev sElsif : ByteArray := ⟨#[69, 76, 83, 73, 70]⟩
abbrev sElse : ByteArray := ⟨#[69, 76, 83, 69]⟩
abbrev sEnd : ByteArray := ⟨#[69, 78, 68]⟩
abbrev sCase : ByteArray := ⟨#[67, 65, 83, 69]⟩
abbrev sOf : ByteArray := ⟨#[79, 70]⟩
abbrev sWhile : ByteArray := ⟨#[87, 72, 73, 76, 69]⟩
abbrev sDo : ByteArray := ⟨#[68, 79]⟩
abbrev sRepeat : ByteArray := ⟨#[82, 69, 80, 69, 65, 84]⟩
abbrev sUntil : ByteArray := ⟨#[85, 78, 84, 73, 76]⟩
abbrev sLoop : ByteArray := ⟨#[76, 79, 79, 80]⟩
abbrev sExit : ByteArray := ⟨#[69, 88, 73, 84]⟩
abbrev sFor : ByteArray := ⟨#[70, 79, 82]⟩
abbrev sTo : ByteArray := ⟨#[84, 79]⟩
abbrev sBy : ByteArray := ⟨#[66, 89]⟩
abbrev sWith : ByteArray := ⟨#[87, 73, 84, 72]⟩
abbrev sReturn : ByteArray := ⟨#[82, 69, 84, 85, 82, 78]⟩
def isWd6 (s : ByteArray) (t : PT) : Bool := decide (t.1.kind = 6) && decide (t.1.text = s)
def isNm (t : PT) : Bool := decide (t.1.kind = 1)
def armOut (t : PT) : Bool := tT sBar t || tT sElse t || tT sEnd t
def retOut (t : PT) : Bool := decide (t.1.kind = 0) || tT sSem t || tT sBar t || tT sEnd t || tT sElse t || tT sElsif t || tT sUntil t
section
variable (g : Nat) (bd : Par T1)
def endS (kind : Nat) (p : Nat × Nat) (name : ByteArray) (l : List T1) : Par T1 := needF sEnd (retP (mk kind p name 0 l))
def ifsF : Nat → List T1 → Par (List T1)
 | 0, _ => failP
 | f + 1, acc => bindP (exprF g) fun c => needF sThen (bindP bd fun b => tokP (tT sElsif) (fun _ => ifsF f (acc ++ [c, b])) (retP (acc ++ [c, b])))
def elseS (kind : Nat) (p : Nat × Nat) (l : List T1) : Par T1 := tokP (tT sElse) (fun _ => bindP bd fun b => endS kind p sNil (l ++ [b])) (endS kind p sNil l)
def ifS (p : Nat × Nat) : Par T1 := bindP (ifsF g bd g []) fun l => elseS bd 62 p l
def armsF : Nat → List T1 → Par (List T1)
 | 0, _ => failP
 | f + 1, acc => posP fun t0 => if armOut t0 = true then tokP (tT sBar) (fun _ => armsF f acc) (retP acc)
   else bindP (labelsF g) fun l => needF sCol (bindP bd fun b => tokP (tT sBar) (fun _ => armsF f (acc ++ [mk 28 t0.2.1 sNil 0 [l, b]])) (retP (acc ++ [mk 28 t0.2.1 sNil 0 [l, b]])))
def caseS (p : Nat × Nat) : Par T1 := bindP (exprF g) fun x => needF sOf (bindP (armsF g bd g [x]) fun l => tokP (tT sElse) (fun t => bindP bd fun b => endS 63 p sNil (l ++ [mk 30 t.2.1 sNil 0 [b]])) (endS 63 p sNil l))
def whileS (p : Nat × Nat) : Par T1 := bindP (exprF g) fun c => needF sDo (bindP bd fun b => endS 64 p sNil [c, b])
def repS (p : Nat × Nat) : Par T1 := bindP bd fun b => needF sUntil (bindP (exprF g) fun c => retP (mk 65 p sNil 0 [b, c]))
def loopS (p : Nat × Nat) : Par T1 := bindP bd fun b => endS 66 p sNil [b]
def exitS (p : Nat × Nat) : Par T1 := retP (mk 67 p sNil 0 [])
def forE (p : Nat × Nat) (v : ByteArray) (a z y : T1) : Par T1 := needF sDo (bindP bd fun b => endS 68 p v [a, z, y, b])
def forS (p : Nat × Nat) : Par T1 := tokP isNm (fun v => needF sAsg (bindP (exprF g) fun a => needF sTo (bindP (exprF g) fun z => tokP (tT sBy) (fun _ => bindP (exprF g) fun y => forE bd p v.1.text a z y) (forE bd p v.1.text a z zeroT)))) failP
def withS (p : Nat × Nat) : Par T1 := bindP (designF (exprF g) g) fun d => needF sDo (bindP bd fun b => endS 69 p sNil [d, b])
def returnS (p : Nat × Nat) : Par T1 := posP fun t => if retOut t = true then retP (mk 70 p sNil 0 []) else bindP (exprF g) fun x => retP (mk 70 p sNil 0 [x])
def plainS : Par T1 := posP fun t0 => bindP (designF (exprF g) g) fun d => posP fun t1 => tokP (tT sAsg) (fun _ => bindP (exprF g) fun y => retP (mk 60 t1.2.1 sNil 0 [d, y]))
 (tokP (tT sPar) (fun _ => bindP (betweenF (exprF g) g sRap) fun l => retP (mk 61 t0.2.1 sNil 0 (d :: l))) (retP (mk 61 t0.2.1 sNil 0 [d])))
def alts : List (ByteArray × (Nat × Nat → Par T1)) := [(sIf, ifS g bd), (sCase, caseS g bd), (sWhile, whileS g bd), (sRepeat, repS g bd), (sLoop, loopS bd), (sExit, exitS), (sFor, forS g bd), (sWith, withS g bd), (sReturn, returnS g)]
def stmL : List (ByteArray × (Nat × Nat → Par T1)) → Par (List T1)
 | [] => posP fun t => if isNm t = true then bindP (plainS g) fun x => retP [x] else retP []
 | (s, q) :: r => tokP (isWd6 s) (fun t => bindP (q t.2.1) fun x => retP [x]) (stmL r)
def stmS : Par (List T1) := stmL g (alts g bd)
def bodyR : Nat → List T1 → Par (List T1)
 | 0, _ => failP
 | f + 1, acc => bindP (stmS g bd) fun s => tokP (tT sSem) (fun _ => bodyR f (acc ++ s)) (retP (acc ++ s))
def bodyG : Par T1 := posP fun t0 => bindP (bodyR g bd g []) fun l => retP (mk 46 t0.2.1 sNil 0 l)
end
def bodyF (g : Nat) : Nat → Par T1
 | 0 => failP
 | f + 1 => bodyG g (bodyF g f)
section
variable {g : Nat} {bd : Par T1} (hb : Good2 bd)
theorem g2_expr : Good2 (exprF g) := g2_of (good_exprF g)
theorem g2_design : Good2 (designF (exprF g) g) := g2_of (good_designF (good_exprF g) g)
theorem g2_labels : Good2 (labelsF g) := g2_of (good_labelsF g)
theorem g2_endS {k : Nat} {p : Nat × Nat} {n : ByteArray} {l : List T1} : Good2 (endS k p n l) := g2_need (g2_ret _)
include hb
theorem g2_ifsF : ∀ (f : Nat) (acc : List T1), Good2 (ifsF g bd f acc)
 | 0, _ => g2_fail
 | f + 1, acc => g2_bind g2_expr fun c => g2_need (g2_bind hb fun b => g2_tok (tT_no _) (fun _ => g2_ifsF f _) (g2_ret _))
theorem g2_elseS {k : Nat} {p : Nat × Nat} {l : List T1} : Good2 (elseS bd k p l) := g2_tok (tT_no _) (fun _ => g2_bind hb fun b => g2_endS) g2_endS
theorem g2_ifS {p : Nat × Nat} : Good2 (ifS g bd p) := g2_bind (g2_ifsF hb _ _) fun l => g2_elseS hb
theorem g2_armsF : ∀ (f : Nat) (acc : List T1), Good2 (armsF g bd f acc)
 | 0, _ => g2_fail
 | f + 1, acc => g2_pos fun t0 => by
   split
   ·exact g2_tok (tT_no _) (fun _ => g2_armsF f _) (g2_ret _)
   ·exact g2_bind g2_labels fun l => g2_need (g2_bind hb fun b => g2_tok (tT_no _) (fun _ => g2_armsF f _) (g2_ret _))
theorem g2_caseS {p : Nat × Nat} : Good2 (caseS g bd p) := g2_bind g2_expr fun x => g2_need (g2_bind (g2_armsF hb _ _) fun l => g2_tok (tT_no _) (fun t => g2_bind hb fun b => g2_endS) g2_endS)
theorem g2_whileS {p : Nat × Nat} : Good2 (whileS g bd p) := g2_bind g2_expr fun c => g2_need (g2_bind hb fun b => g2_endS)
theorem g2_repS {p : Nat × Nat} : Good2 (repS g bd p) := g2_bind hb fun b => g2_need (g2_bind g2_expr fun c => g2_ret _)
theorem g2_loopS {p : Nat × Nat} : Good2 (loopS bd p) := g2_bind hb fun b => g2_endS
theorem g2_forE {p : Nat × Nat} {v : ByteArray} {a z y : T1} : Good2 (forE bd p v a z y) := g2_need (g2_bind hb fun b => g2_endS)
theorem g2_forS {p : Nat × Nat} : Good2 (forS g bd p) := g2_tok rfl (fun v => g2_need (g2_bind g2_expr fun a => g2_need (g2_bind g2_expr fun z => g2_tok (tT_no _) (fun _ => g2_bind g2_expr fun y => g2_forE hb) (g2_forE hb)))) g2_fail
theorem g2_withS {p : Nat × Nat} : Good2 (withS g bd p) := g2_bind g2_design fun c => g2_need (g2_bind hb fun b => g2_endS)
omit hb in
theorem g2_returnS {p : Nat × Nat} : Good2 (returnS g p) := g2_pos fun t => by
 split
 ·exact g2_ret _
 ·exact g2_bind g2_expr fun x => g2_ret _
omit hb in
theorem g2_plainS : Good2 (plainS g) := g2_pos fun t0 => g2_bind g2_design fun d => g2_pos fun t1 => g2_tok (tT_no _) (fun _ => g2_bind g2_expr fun y => g2_ret _)
 (g2_tok (tT_no _) (fun _ => g2_bind (g2_of (good_betweenF (good_exprF g) g _)) fun l => g2_ret _) (g2_ret _))
theorem g2_alts : ∀ x ∈ alts g bd, ∀ p, Good2 (x.2 p) := by
 intro x hx p
 unfold alts at hx
 simp only [List.mem_cons, List.not_mem_nil, or_false] at hx
 rcases hx with rfl | rfl | rfl | rfl | rfl | rfl | rfl | rfl | rfl
 ·exact g2_ifS hb
 ·exact g2_caseS hb
 ·exact g2_whileS hb
 ·exact g2_repS hb
 ·exact g2_loopS hb
 ·exact g2_ret _
 ·exact g2_forS hb
 ·exact g2_withS hb
 ·exact g2_returnS
omit hb in
theorem g2_stmL : ∀ (l : List (ByteArray × (Nat × Nat → Par T1))), (∀ x ∈ l, ∀ p, Good2 (x.2 p)) → Good2 (stmL g l)
 | [], _ => g2_pos fun t => by
   split
   ·exact g2_bind g2_plainS fun x => g2_ret _
   ·exact g2_ret _
 | (s, q) :: r, h => g2_tok (by simp [isWd6, noPT, noTk]) (fun t => g2_bind (h _ (List.mem_cons_self ..) _) fun x => g2_ret _) (g2_stmL r fun x hx => h x (List.mem_cons_of_mem _ hx))
theorem g2_stmS : Good2 (stmS g bd) := g2_stmL _ (g2_alts hb)
theorem g2_bodyR : ∀ (f : Nat) (acc : List T1), Good2 (bodyR g bd f acc)
 | 0, _ => g2_fail
 | f + 1, acc => g2_bind (g2_stmS hb) fun s => g2_tok (tT_no _) (fun _ => g2_bodyR f _) (g2_ret _)
theorem g2_bodyG : Good2 (bodyG g bd) := g2_pos fun t0 => g2_bind (g2_bodyR hb _ _) fun l => g2_ret _
end
theorem g2_bodyF (g : Nat) : ∀ f, Good2 (bodyF g f)
 | 0 => g2_fail
 | f + 1 => g2_bodyG (g2_bodyF g f)
end St
end Go.Proofs.YtkemhmfdooghkaaGreatDoor
