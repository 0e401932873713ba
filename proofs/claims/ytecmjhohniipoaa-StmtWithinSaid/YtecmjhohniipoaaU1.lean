/- What the parser of statements answers, by combinators; where a row is cut. Plain. -/
import Derived.Test.YtecmjhohniipoaaF5
set_option linter.unusedSimpArgs false
set_option linter.unusedVariables false
namespace Go.Proofs.Ytecmjhohniipoaa.St
open Go.RowKit
open Tr (Nd Fo)
open Lx (Tk noTk)
open Ex

/-! ### Parsers that may pass nothing -/
/-- The cut row's answer is the same, or it hangs on the cut row's end, and the whole row's answer does not lie ahead of it. -/
def Lock2 {α : Type} (m : Nat) (r r' : Except Nat (α × Nat)) : Prop :=
  (r' = r ∧ (match r with | .ok (_, j) => j ≤ m | .error k => k < m)) ∨ (posE r' = m ∧ m ≤ posE r)
structure Good2 {α : Type} (p : Par α) : Prop where
  mono : ∀ L i, i ≤ posE (p L i)
  end_ : ∀ L i, L.length ≤ i → posE (p L i) = i
  lock : ∀ L m i, i ≤ m → m ≤ L.length → Lock2 m (p L i) (p (L.take m) i)
section
variable {α β : Type}
theorem g2_of {p : Par α} (h : Ex.Good p) : Good2 p := ⟨h.mono, h.end_, fun L m i hi hm => by
  rcases h.lock L m i hi hm with h1 | ⟨h1, h2⟩
  · exact .inl h1
  · refine .inr ⟨h1, ?_⟩
    cases e : p L i with
    | error k => rw [e] at h2; exact h2
    | ok r => obtain ⟨a, j⟩ := r; rw [e] at h2; exact Nat.le_of_lt h2⟩
theorem g2_ret (a : α) : Good2 (retP a) := g2_of (good_ret a)
theorem g2_fail : Good2 (failP (α := α)) := g2_of good_fail
theorem g2_end {p : Par α} (h : Good2 p) {L : List PT} {m : Nat} (hm : m ≤ L.length) : posE (p (L.take m) m) = m := h.end_ _ _ (by rw [Ex.take_len hm]; exact Nat.le_refl _)
theorem g2_bind {p : Par α} {q : α → Par β} (hp : Good2 p) (hq : ∀ a, Good2 (q a)) : Good2 (bindP p q) := by
  have hmono : ∀ L i, posE (p L i) ≤ posE (bindP p q L i) := by
    intro L i
    unfold bindP
    cases e : p L i with
    | error k => exact Nat.le_refl _
    | ok r => obtain ⟨a, j⟩ := r; exact (hq a).mono L j
  refine ⟨fun L i => Nat.le_trans (hp.mono L i) (hmono L i), fun L i h => ?_, fun L m i him hm => ?_⟩
  · have h1 := hp.end_ L i h
    unfold bindP
    cases e : p L i with
    | error k => rw [e] at h1; exact h1
    | ok r =>
      obtain ⟨a, j⟩ := r
      rw [e] at h1
      have h1 : j = i := h1
      subst h1
      exact (hq a).end_ L j h
  · have hM := hmono L i
    rcases hp.lock L m i him hm with ⟨h1, h2⟩ | ⟨h1, h2⟩
    · cases e : p L i with
      | error k =>
        rw [e] at h1 h2
        refine .inl ⟨by unfold bindP; rw [h1, e], ?_⟩
        unfold bindP
        rw [e]
        exact h2
      | ok r =>
        obtain ⟨a, j⟩ := r
        rw [e] at h1 h2
        have := (hq a).lock L m j h2 hm
        unfold bindP
        rw [h1, e]
        exact this
    · refine .inr ⟨?_, Nat.le_trans h2 hM⟩
      unfold bindP
      cases e : p (L.take m) i with
      | error k => rw [e] at h1; exact h1
      | ok r =>
        obtain ⟨a, j⟩ := r
        rw [e] at h1
        have h1 : j = m := h1
        subst h1
        exact g2_end (hq a) hm
theorem g2_pos {q : PT → Par α} (hq : ∀ x, Good2 (q x)) : Good2 (posP q) := by
  refine ⟨fun L i => (hq _).mono L i, fun L i h => (hq _).end_ L i h, fun L m i him hm => ?_⟩
  rcases Nat.lt_or_ge i m with h1 | h1
  · unfold posP
    rw [tk_take h1]
    exact (hq _).lock L m i him hm
  · have : i = m := by omega
    subst this
    exact .inr ⟨g2_end (hq _) hm, (hq _).mono L i⟩
theorem g2_tok {t : PT → Bool} {A : PT → Par α} {B : Par α} (t0 : t noPT = false) (hA : ∀ x, Good2 (A x)) (hB : Good2 B) : Good2 (tokP t A B) := by
  have hmono : ∀ L i, i ≤ posE (tokP t A B L i) := by
    intro L i
    unfold tokP
    split
    · exact Nat.le_trans (Nat.le_succ i) ((hA _).mono L (i + 1))
    · exact hB.mono L i
  have hend : ∀ L i, L.length ≤ i → posE (tokP t A B L i) = i := by
    intro L i h
    unfold tokP
    rw [tk_end h, if_neg (by rw [t0]; simp)]
    exact hB.end_ L i h
  refine ⟨hmono, hend, fun L m i him hm => ?_⟩
  rcases Nat.lt_or_ge i m with h1 | h1
  · unfold tokP
    rw [tk_take h1]
    split
    · exact (hA _).lock L m (i + 1) h1 hm
    · exact hB.lock L m i him hm
  · have : i = m := by omega
    subst this
    exact .inr ⟨hend _ _ (by rw [Ex.take_len hm]; exact Nat.le_refl _), hmono L i⟩
theorem g2_need {s : ByteArray} {p : Par α} (h : Good2 p) : Good2 (needF s p) := g2_tok (tT_no s) (fun _ => h) g2_fail
/-- Where a whole row ends, an answer ends. -/
theorem g2_le {p : Par α} (h : Good2 p) {L : List PT} {i : Nat} (hi : i ≤ L.length) : posE (p L i) ≤ L.length := by
  have h1 := h.lock L L.length i hi (Nat.le_refl _)
  rw [List.take_length] at h1
  rcases h1 with ⟨_, h1⟩ | ⟨h1, _⟩
  · cases e : p L i with
    | error j => rw [e] at h1; exact Nat.le_of_lt h1
    | ok x => obtain ⟨x, j⟩ := x; rw [e] at h1; exact h1
  · exact Nat.le_of_eq h1
theorem g2_max {p : Par α} (h : Good2 p) (L : List PT) (i : Nat) : i ≤ posE (p L i) ∧ (i ≤ L.length → posE (p L i) ≤ L.length) ∧ (L.length ≤ i → posE (p L i) = i) := ⟨h.mono L i, g2_le h, h.end_ L i⟩
theorem g2_err {p : Par α} (h : Good2 p) {L : List PT} {i n : Nat} (hi : i ≤ n) (e : p L i = .error n) (hn : n < L.length) : p (L.take (n + 1)) i = .error n := by
  rcases h.lock L (n + 1) i (by omega) hn with ⟨h1, _⟩ | ⟨_, h2⟩
  · rw [h1, e]
  · rw [e] at h2
    have h3 : n + 1 ≤ n := h2
    omega
theorem g2_at {p : Par α} (h : Good2 p) {L : List PT} {i m : Nat} (hi : i ≤ m) (hm : m ≤ posE (p L i)) (hl : m ≤ L.length) : (∃ y j, p (L.take m) i = .ok (y, j) ∧ j ≤ m) ∨ p (L.take m) i = .error m := by
  rcases h.lock L m i hi hl with ⟨h1, h2⟩ | ⟨h1, _⟩
  · rw [h1]
    cases e : p L i with
    | error j =>
      rw [e] at h2 hm
      have h3 : j < m := h2
      have h4 : m ≤ j := hm
      omega
    | ok x => obtain ⟨x, j⟩ := x; rw [e] at h2; exact .inl ⟨x, j, rfl, h2⟩
  · cases e : p (L.take m) i with
    | error j => rw [e] at h1; exact .inr (by rw [show j = m from h1])
    | ok x => obtain ⟨x, j⟩ := x; rw [e] at h1; exact .inl ⟨x, j, rfl, Nat.le_of_eq h1⟩
end

/-! ### Statements -/
abbrev sSem : ByteArray := ⟨#[59]⟩
abbrev sAsg : ByteArray := ⟨#[58, 61]⟩
abbrev sCol : ByteArray := ⟨#[58]⟩
abbrev sBar : ByteArray := ⟨#[124]⟩
abbrev sIf : ByteArray := ⟨#[73, 70]⟩
abbrev sThen : ByteArray := ⟨#[84, 72, 69, 78]⟩
abbrev sElsif : ByteArray := ⟨#[69, 76, 83, 73, 70]⟩
abbrev sElse : ByteArray := ⟨#[69, 76, 83, 69]⟩
abbrev sEnd : ByteArray := ⟨#[69, 78, 68]⟩
abbrev sCase : ByteArray := ⟨#[67, 65, 83, 69]⟩
abbrev sOf : ByteArray := ⟨#[79, 70]⟩
abbrev sWhile : ByteArray := ⟨#[87, 72, 73, 76, 69]⟩
abbrev sDo : ByteArray := ⟨#[68, 79]⟩
abbrev sRepeat : ByteArray := ⟨#[82, 69, 80, 69, 65, 84]⟩
abbrev sUntil : ByteArray := ⟨#[85, 78, 84, 73, 76]⟩
abbrev sLoop : ByteArray := ⟨#[76, 79, 79, 80]⟩
abbrev sExit : ByteArray := ⟨#[69, 88, 73, 84]⟩
abbrev sFor : ByteArray := ⟨#[70, 79, 82]⟩
abbrev sTo : ByteArray := ⟨#[84, 79]⟩
abbrev sBy : ByteArray := ⟨#[66, 89]⟩
abbrev sWith : ByteArray := ⟨#[87, 73, 84, 72]⟩
abbrev sReturn : ByteArray := ⟨#[82, 69, 84, 85, 82, 78]⟩
def isWd6 (s : ByteArray) (t : PT) : Bool := decide (t.1.kind = 6) && decide (t.1.text = s)
def isNm (t : PT) : Bool := decide (t.1.kind = 1)
def armOut (t : PT) : Bool := tT sBar t || tT sElse t || tT sEnd t
def retOut (t : PT) : Bool := decide (t.1.kind = 0) || tT sSem t || tT sBar t || tT sEnd t || tT sElse t || tT sElsif t || tT sUntil t
section
variable (g : Nat) (bd : Par T1)
def endS (kind : Nat) (p : Nat × Nat) (name : ByteArray) (l : List T1) : Par T1 := needF sEnd (retP (mk kind p name 0 l))
def ifsF : Nat → List T1 → Par (List T1)
  | 0, _ => failP
  | f + 1, acc => bindP (exprF g) fun c => needF sThen (bindP bd fun b => tokP (tT sElsif) (fun _ => ifsF f (acc ++ [c, b])) (retP (acc ++ [c, b])))
def elseS (kind : Nat) (p : Nat × Nat) (l : List T1) : Par T1 := tokP (tT sElse) (fun _ => bindP bd fun b => endS kind p sNil (l ++ [b])) (endS kind p sNil l)
def ifS (p : Nat × Nat) : Par T1 := bindP (ifsF g bd g []) fun l => elseS bd 62 p l
def armsF : Nat → List T1 → Par (List T1)
  | 0, _ => failP
  | f + 1, acc => posP fun t0 => if armOut t0 = true then tokP (tT sBar) (fun _ => armsF f acc) (retP acc)
    else bindP (labelsF g) fun l => needF sCol (bindP bd fun b => tokP (tT sBar) (fun _ => armsF f (acc ++ [mk 28 t0.2.1 sNil 0 [l, b]])) (retP (acc ++ [mk 28 t0.2.1 sNil 0 [l, b]])))
def caseS (p : Nat × Nat) : Par T1 := bindP (exprF g) fun x => needF sOf (bindP (armsF g bd g [x]) fun l => tokP (tT sElse) (fun t => bindP bd fun b => endS 63 p sNil (l ++ [mk 30 t.2.1 sNil 0 [b]])) (endS 63 p sNil l))
def whileS (p : Nat × Nat) : Par T1 := bindP (exprF g) fun c => needF sDo (bindP bd fun b => endS 64 p sNil [c, b])
def repS (p : Nat × Nat) : Par T1 := bindP bd fun b => needF sUntil (bindP (exprF g) fun c => retP (mk 65 p sNil 0 [b, c]))
def loopS (p : Nat × Nat) : Par T1 := bindP bd fun b => endS 66 p sNil [b]
def exitS (p : Nat × Nat) : Par T1 := retP (mk 67 p sNil 0 [])
def forE (p : Nat × Nat) (v : ByteArray) (a z y : T1) : Par T1 := needF sDo (bindP bd fun b => endS 68 p v [a, z, y, b])
def forS (p : Nat × Nat) : Par T1 := tokP isNm (fun v => needF sAsg (bindP (exprF g) fun a => needF sTo (bindP (exprF g) fun z => tokP (tT sBy) (fun _ => bindP (exprF g) fun y => forE bd p v.1.text a z y) (forE bd p v.1.text a z zeroT)))) failP
def withS (p : Nat × Nat) : Par T1 := bindP (designF (exprF g) g) fun d => needF sDo (bindP bd fun b => endS 69 p sNil [d, b])
def returnS (p : Nat × Nat) : Par T1 := posP fun t => if retOut t = true then retP (mk 70 p sNil 0 []) else bindP (exprF g) fun x => retP (mk 70 p sNil 0 [x])
def plainS : Par T1 := posP fun t0 => bindP (designF (exprF g) g) fun d => posP fun t1 => tokP (tT sAsg) (fun _ => bindP (exprF g) fun y => retP (mk 60 t1.2.1 sNil 0 [d, y]))
  (tokP (tT sPar) (fun _ => bindP (betweenF (exprF g) g sRap) fun l => retP (mk 61 t0.2.1 sNil 0 (d :: l))) (retP (mk 61 t0.2.1 sNil 0 [d])))
/-- The nine words that begin a statement. -/
def alts : List (ByteArray × (Nat × Nat → Par T1)) := [(sIf, ifS g bd), (sCase, caseS g bd), (sWhile, whileS g bd), (sRepeat, repS g bd), (sLoop, loopS bd), (sExit, exitS), (sFor, forS g bd), (sWith, withS g bd), (sReturn, returnS g)]
def stmL : List (ByteArray × (Nat × Nat → Par T1)) → Par (List T1)
  | [] => posP fun t => if isNm t = true then bindP (plainS g) fun x => retP [x] else retP []
  | (s, q) :: r => tokP (isWd6 s) (fun t => bindP (q t.2.1) fun x => retP [x]) (stmL r)
def stmS : Par (List T1) := stmL g (alts g bd)
def bodyR : Nat → List T1 → Par (List T1)
  | 0, _ => failP
  | f + 1, acc => bindP (stmS g bd) fun s => tokP (tT sSem) (fun _ => bodyR f (acc ++ s)) (retP (acc ++ s))
def bodyG : Par T1 := posP fun t0 => bindP (bodyR g bd g []) fun l => retP (mk 46 t0.2.1 sNil 0 l)
end
def bodyF (g : Nat) : Nat → Par T1
  | 0 => failP
  | f + 1 => bodyG g (bodyF g f)
section
variable {g : Nat} {bd : Par T1} (hb : Good2 bd)
theorem g2_expr : Good2 (exprF g) := g2_of (good_exprF g)
theorem g2_design : Good2 (designF (exprF g) g) := g2_of (good_designF (good_exprF g) g)
theorem g2_labels : Good2 (labelsF g) := g2_of (good_labelsF g)
theorem g2_endS {k : Nat} {p : Nat × Nat} {n : ByteArray} {l : List T1} : Good2 (endS k p n l) := g2_need (g2_ret _)
include hb
theorem g2_ifsF : ∀ (f : Nat) (acc : List T1), Good2 (ifsF g bd f acc)
  | 0, _ => g2_fail
  | f + 1, acc => g2_bind g2_expr fun c => g2_need (g2_bind hb fun b => g2_tok (tT_no _) (fun _ => g2_ifsF f _) (g2_ret _))
theorem g2_elseS {k : Nat} {p : Nat × Nat} {l : List T1} : Good2 (elseS bd k p l) := g2_tok (tT_no _) (fun _ => g2_bind hb fun b => g2_endS) g2_endS
theorem g2_ifS {p : Nat × Nat} : Good2 (ifS g bd p) := g2_bind (g2_ifsF hb _ _) fun l => g2_elseS hb
theorem g2_armsF : ∀ (f : Nat) (acc : List T1), Good2 (armsF g bd f acc)
  | 0, _ => g2_fail
  | f + 1, acc => g2_pos fun t0 => by
    split
    · exact g2_tok (tT_no _) (fun _ => g2_armsF f _) (g2_ret _)
    · exact g2_bind g2_labels fun l => g2_need (g2_bind hb fun b => g2_tok (tT_no _) (fun _ => g2_armsF f _) (g2_ret _))
theorem g2_caseS {p : Nat × Nat} : Good2 (caseS g bd p) := g2_bind g2_expr fun x => g2_need (g2_bind (g2_armsF hb _ _) fun l => g2_tok (tT_no _) (fun t => g2_bind hb fun b => g2_endS) g2_endS)
theorem g2_whileS {p : Nat × Nat} : Good2 (whileS g bd p) := g2_bind g2_expr fun c => g2_need (g2_bind hb fun b => g2_endS)
theorem g2_repS {p : Nat × Nat} : Good2 (repS g bd p) := g2_bind hb fun b => g2_need (g2_bind g2_expr fun c => g2_ret _)
theorem g2_loopS {p : Nat × Nat} : Good2 (loopS bd p) := g2_bind hb fun b => g2_endS
theorem g2_forE {p : Nat × Nat} {v : ByteArray} {a z y : T1} : Good2 (forE bd p v a z y) := g2_need (g2_bind hb fun b => g2_endS)
theorem g2_forS {p : Nat × Nat} : Good2 (forS g bd p) := g2_tok rfl (fun v => g2_need (g2_bind g2_expr fun a => g2_need (g2_bind g2_expr fun z => g2_tok (tT_no _) (fun _ => g2_bind g2_expr fun y => g2_forE hb) (g2_forE hb)))) g2_fail
theorem g2_withS {p : Nat × Nat} : Good2 (withS g bd p) := g2_bind g2_design fun c => g2_need (g2_bind hb fun b => g2_endS)
omit hb in
theorem g2_returnS {p : Nat × Nat} : Good2 (returnS g p) := g2_pos fun t => by
  split
  · exact g2_ret _
  · exact g2_bind g2_expr fun x => g2_ret _
omit hb in
theorem g2_plainS : Good2 (plainS g) := g2_pos fun t0 => g2_bind g2_design fun d => g2_pos fun t1 => g2_tok (tT_no _) (fun _ => g2_bind g2_expr fun y => g2_ret _)
  (g2_tok (tT_no _) (fun _ => g2_bind (g2_of (good_betweenF (good_exprF g) g _)) fun l => g2_ret _) (g2_ret _))
theorem g2_alts : ∀ x ∈ alts g bd, ∀ p, Good2 (x.2 p) := by
  intro x hx p
  unfold alts at hx
  simp only [List.mem_cons, List.not_mem_nil, or_false] at hx
  rcases hx with rfl | rfl | rfl | rfl | rfl | rfl | rfl | rfl | rfl
  · exact g2_ifS hb
  · exact g2_caseS hb
  · exact g2_whileS hb
  · exact g2_repS hb
  · exact g2_loopS hb
  · exact g2_ret _
  · exact g2_forS hb
  · exact g2_withS hb
  · exact g2_returnS
omit hb in
theorem g2_stmL : ∀ (l : List (ByteArray × (Nat × Nat → Par T1))), (∀ x ∈ l, ∀ p, Good2 (x.2 p)) → Good2 (stmL g l)
  | [], _ => g2_pos fun t => by
    split
    · exact g2_bind g2_plainS fun x => g2_ret _
    · exact g2_ret _
  | (s, q) :: r, h => g2_tok (by simp [isWd6, noPT, noTk]) (fun t => g2_bind (h _ (List.mem_cons_self ..) _) fun x => g2_ret _) (g2_stmL r fun x hx => h x (List.mem_cons_of_mem _ hx))
theorem g2_stmS : Good2 (stmS g bd) := g2_stmL _ (g2_alts hb)
theorem g2_bodyR : ∀ (f : Nat) (acc : List T1), Good2 (bodyR g bd f acc)
  | 0, _ => g2_fail
  | f + 1, acc => g2_bind (g2_stmS hb) fun s => g2_tok (tT_no _) (fun _ => g2_bodyR f _) (g2_ret _)
theorem g2_bodyG : Good2 (bodyG g bd) := g2_pos fun t0 => g2_bind (g2_bodyR hb _ _) fun l => g2_ret _
end
theorem g2_bodyF (g : Nat) : ∀ f, Good2 (bodyF g f)
  | 0 => g2_fail
  | f + 1 => g2_bodyG (g2_bodyF g f)
end Go.Proofs.Ytecmjhohniipoaa.St
