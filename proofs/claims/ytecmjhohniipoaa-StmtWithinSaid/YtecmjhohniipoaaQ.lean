/- Parts of the proof: F6, Num, F7, F9, E33, X1, X2, X3, X4, X5, X6, X7, X8, X12, X9, X10, G4, G5, G13, G8, G9, G14, G17, G18, G22, W1, X11, X13. -/
import Derived.Test.YtecmjhohniipoaaF5
import Derived.Lib.ItoaNum
import Derived.Lib.ItoaMem
import Derived.Lib.AtoiAll
import Derived.Lib.AtoiAllCases
import Derived.Test.YtecmjhohniipoaaE28
import Derived.Test.YtecmjhohniipoaaU8
import Derived.RegionTactic
import Derived.Deep.RegionHeld3
import Derived.Deep.DrawnRows
import Derived.Deep.LoopGhost
import Derived.Deep.Cut
import Derived.Deep.CutBlock
import Derived.Deep.CutRange
import Derived.Deep.Slices
import Derived.Deep.Fields
import Derived.ChangeSame
import Derived.Deep.QuietTactic
import Derived.BigQuiet
import Derived.StillTailTactics
import Derived.Test.YtecmjhohniipoaaE9
import Derived.Deep.AppendLies
import Derived.Test.YtecmjhohniipoaaU1
import Derived.Test.YtecmjhohniipoaaU10
set_option linter.unusedSimpArgs false
set_option linter.unusedVariables false
set_option linter.unusedSectionVars false

section
namespace Go.Proofs.Ytecmjhohniipoaa.Ex
open Tr (Nd Fo)
open Lx (Tk noTk)
def opsB : List ByteArray := [⟨#[42]⟩, ⟨#[47]⟩, ⟨#[68, 73, 86]⟩, ⟨#[77, 79, 68]⟩, ⟨#[65, 78, 68]⟩, ⟨#[43]⟩, ⟨#[45]⟩, ⟨#[79, 82]⟩, ⟨#[61]⟩, ⟨#[35]⟩, ⟨#[60]⟩, ⟨#[60, 61]⟩, ⟨#[62]⟩, ⟨#[62, 61]⟩, ⟨#[73, 78]⟩]
def opB (k : Nat) : ByteArray := opsB.getD k ⟨#[]⟩
def opTk (k : Nat) : Tk := ⟨if k = 2 ∨ k = 3 ∨ k = 4 ∨ k = 7 ∨ k = 14 then 6 else 5, opB k, 0⟩
def opLev (k : Nat) : Nat := if k < 5 then 2 else if k < 8 then 1 else 0
def unB (k : Nat) : ByteArray := if k = 0 then ⟨#[43]⟩ else if k = 1 then ⟨#[45]⟩ else sNot
def unTk (k : Nat) : Tk := ⟨if k = 2 then 6 else 5, unB k, 0⟩
inductive Gr where
  | z : Gr
  | bin (op : Nat) (a b : Gr) : Gr
  | un (op : Nat) (a : Gr) : Gr
  | num (n : Nat) : Gr
  | idx (a : Gr) : Gr
  | call (a b : Gr) : Gr
  | rng (a b : Gr) : Gr
  | str : Gr
def Gr.fits : Gr → Prop
  | .z => True
  | .bin op a b => op < 15 ∧ a.fits ∧ b.fits
  | .un op a => op < 3 ∧ a.fits
  | .num n => n ≤ 65535
  | .idx a => a.fits
  | .call a b => a.fits ∧ b.fits
  | .rng a b => a.fits ∧ b.fits
  | .str => True
def nm (c : UInt8) : T1 := mk 1 (0, 0) ⟨#[c]⟩ 0 []
def Gr.tree : Gr → T1
  | .z => nm 122
  | .bin op a b => mk 11 (0, 0) (opB op) 0 [a.tree, b.tree]
  | .un op a => mk 12 (0, 0) (unB op) 0 [a.tree]
  | .num n => mk 5 (0, 0) sNil n []
  | .idx a => mk 2 (0, 0) ⟨#[102]⟩ 0 [mk 4 (0, 0) sNil 0 [mk 3 (0, 0) sNil 0 [nm 118, a.tree]]]
  | .call a b => mk 10 (0, 0) sNil 0 [nm 103, a.tree, b.tree]
  | .rng a b => mk 8 (0, 0) sNil 0 [nm 83, mk 9 (0, 0) sNil 0 [a.tree, b.tree]]
  | .str => mk 7 (0, 0) ⟨#[113]⟩ 0 []
def sy (s : ByteArray) : Tk := ⟨5, s, 0⟩
def na (c : UInt8) : Tk := ⟨1, ⟨#[c]⟩, 0⟩
def Gr.toks : Gr → List Tk
  | .z => [na 122]
  | .bin op a b => sy sPar :: (a.toks ++ opTk op :: (b.toks ++ [sy sRap]))
  | .un op a => sy sPar :: unTk op :: (a.toks ++ [sy sRap])
  | .num n => [⟨2, sNil, n⟩]
  | .idx a => na 118 :: sy sBra :: (a.toks ++ [sy sKet, sy sHat, sy sDot, na 102])
  | .call a b => na 103 :: sy sPar :: (a.toks ++ sy sCom :: (b.toks ++ [sy sRap]))
  | .rng a b => na 83 :: sy sCur :: (a.toks ++ sy sRan :: (b.toks ++ [sy sRuc]))
  | .str => [⟨4, ⟨#[113]⟩, 0⟩]
def AtT (L : List PT) : Nat → List Tk → Prop
  | _, [] => True
  | i, t :: l => (tk L i).1 = t ∧ AtT L (i + 1) l
theorem atT_app {L : List PT} : ∀ {a b : List Tk} {i : Nat}, AtT L i (a ++ b) → AtT L i a ∧ AtT L (i + a.length) b
  | [], b, i, h => ⟨trivial, h⟩
  | t :: a, b, i, h => by
    obtain ⟨h1, h2⟩ := h
    obtain ⟨h3, h4⟩ := atT_app h2
    exact ⟨⟨h1, h3⟩, by rw [List.length_cons, show i + (a.length + 1) = i + 1 + a.length from by omega]; exact h4⟩
def tkT (s : ByteArray) (t : Tk) : Bool := (decide (t.kind = 5) || decide (t.kind = 6)) && decide (t.text = s)
theorem isT_tk (L : List PT) (i : Nat) (s : ByteArray) : isT L i s = tkT s (tk L i).1 := rfl
theorem isT_at {L : List PT} {i : Nat} {t : Tk} (h : (tk L i).1 = t) (s : ByteArray) : isT L i s = tkT s t := by rw [isT_tk, h]
def opK (k : Nat) (t : Tk) : Bool := (decide (t.kind = 5) || decide (t.kind = 6)) && (ops k).any (fun s => decide (s = t.text))
theorem opT_at {L : List PT} {i : Nat} {t : Tk} (h : (tk L i).1 = t) (k : Nat) : opT k (tk L i) = opK k t := by unfold opT opK isSW; rw [h]
theorem opK_high (k : Nat) (t : Tk) : opK (k + 2) t = opK 2 t := rfl
theorem opK_all {t : Tk} (h0 : opK 0 t = false) (h1 : opK 1 t = false) (h2 : opK 2 t = false) : ∀ k, opK k t = false
  | 0 => h0
  | 1 => h1
  | k + 2 => by rw [opK_high]; exact h2
structure StopF (t : Tk) : Prop where
  dot : tkT sDot t = false
  hat : tkT sHat t = false
  bra : tkT sBra t = false
  par : tkT sPar t = false
  cur : tkT sCur t = false
structure StopE (t : Tk) : Prop extends StopF t where
  ops : ∀ k, opK k t = false
theorem stopE_of {t : Tk} (h1 : tkT sDot t = false) (h2 : tkT sHat t = false) (h3 : tkT sBra t = false) (h4 : tkT sPar t = false) (h5 : tkT sCur t = false) (h6 : opK 0 t = false) (h7 : opK 1 t = false) (h8 : opK 2 t = false) : StopE t :=
  ⟨⟨h1, h2, h3, h4, h5⟩, opK_all h6 h7 h8⟩
theorem stopE_rap : StopE (sy sRap) := stopE_of (by decide) (by decide) (by decide) (by decide) (by decide) (by decide) (by decide) (by decide)
theorem stopE_ket : StopE (sy sKet) := stopE_of (by decide) (by decide) (by decide) (by decide) (by decide) (by decide) (by decide) (by decide)
theorem stopE_com : StopE (sy sCom) := stopE_of (by decide) (by decide) (by decide) (by decide) (by decide) (by decide) (by decide) (by decide)
theorem stopE_ran : StopE (sy sRan) := stopE_of (by decide) (by decide) (by decide) (by decide) (by decide) (by decide) (by decide) (by decide)
theorem stopE_ruc : StopE (sy sRuc) := stopE_of (by decide) (by decide) (by decide) (by decide) (by decide) (by decide) (by decide) (by decide)
theorem stopE_no : StopE noTk := stopE_of (by decide) (by decide) (by decide) (by decide) (by decide) (by decide) (by decide) (by decide)
theorem op_facts : ∀ op, op < 15 → tkT sDot (opTk op) = false ∧ tkT sHat (opTk op) = false ∧ tkT sBra (opTk op) = false ∧ tkT sPar (opTk op) = false ∧ tkT sCur (opTk op) = false ∧ opK 0 (opTk op) = decide (opLev op = 0) ∧ opK 1 (opTk op) = decide (opLev op = 1) ∧ opK 2 (opTk op) = decide (opLev op = 2) ∧ (opLev op = 0 ∨ opLev op = 1 ∨ opLev op = 2) ∧ (opTk op).text = opB op := by decide
theorem stopF_op {op : Nat} (h : op < 15) : StopF (opTk op) := by
  obtain ⟨h1, h2, h3, h4, h5, _⟩ := op_facts op h
  exact ⟨h1, h2, h3, h4, h5⟩
theorem opK_op {op : Nat} (h : op < 15) (k : Nat) (hk : k ≤ 2) : opK k (opTk op) = decide (opLev op = k) := by
  obtain ⟨_, _, _, _, _, h0, h1, h2, _⟩ := op_facts op h
  obtain rfl | rfl | rfl : k = 0 ∨ k = 1 ∨ k = 2 := by omega
  · exact h0
  · exact h1
  · exact h2
section
variable {L : List PT} {i j : Nat}
theorem tk_lt {t : Tk} (h : (tk L i).1 = t) (ht : t.kind ≠ 0) : i < L.length := by
  rcases Nat.lt_or_ge i L.length with h1 | h1
  · exact h1
  · rw [tk_end h1] at h
    rw [← h] at ht
    exact absurd rfl ht
theorem name_at {c : UInt8} (h : (tk L i).1 = na c) : nameP L i = .ok (tk L i, i + 1) := by
  unfold nameP
  rw [if_pos (by rw [h]; rfl)]
theorem dots_stop {x : T1} (h : isT L i sDot = false) : ∀ f, dotsP L f x i = .ok (x, i)
  | 0 => rfl
  | f + 1 => by unfold dotsP; rw [h]; rfl
theorem des_stop {ex : Nat → Except Nat (T1 × Nat)} {x : T1} (h1 : isT L i sDot = false) (h2 : isT L i sHat = false) (h3 : isT L i sBra = false) : ∀ f, desP L ex f x i = .ok (x, i)
  | 0 => rfl
  | f + 1 => by unfold desP; rw [h1, h2, h3]; rfl
theorem commas_stop {ex : Nat → Except Nat (T1 × Nat)} {x : T1} (h1 : isT L i sCom = false) : ∀ f, commasP L ex f x i = .ok (x, i)
  | 0 => rfl
  | f + 1 => by unfold commasP; rw [h1]; rfl
theorem manyR_stop {ex : Nat → Except Nat (T1 × Nat)} {l : List T1} (h1 : isT L i sCom = false) : ∀ f, manyR L ex f l i = .ok (l, i)
  | 0 => rfl
  | f + 1 => by unfold manyR; rw [h1]; rfl
theorem design_name {ex : Nat → Except Nat (T1 × Nat)} {c : UInt8} (h : (tk L i).1 = na c) (hd : isT L (i + 1) sDot = false) : designP L ex i = desP L ex (L.length + 1) (mk 1 (pos L i) ⟨#[c]⟩ 0 []) (i + 1) := by
  unfold designP qualP
  rw [name_at h]
  dsimp only
  rw [dots_stop hd]
  dsimp only
  rw [h]
  rfl
theorem fact_name {c : UInt8} (h : (tk L i).1 = na c) : factE L i = (match designP L (exprG L (factP L L.length)) i with
      | .error k => .error k
      | .ok (x, j) => if plainT x = true ∧ isT L j sCur = true then (match betweenP L (elemP L (exprG L (factP L L.length))) sRuc (j + 1) with
          | .error k => .error k
          | .ok (l, j2) => .ok (mk 8 (pos L i) sNil 0 (x :: l), j2))
        else if isT L j sPar = true then (match betweenP L (exprG L (factP L L.length)) sRap (j + 1) with
          | .error k => .error k
          | .ok (l, j2) => .ok (mk 10 (pos L j) sNil 0 (x :: l), j2))
        else .ok (x, j)) := by
  have e : ∀ s, isT L i s = false := fun s => by rw [isT_at h]; rfl
  unfold factE factP
  rw [if_neg (by rw [h]; simp [na]), if_neg (by rw [e]; simp), if_neg (by rw [e]; simp), if_neg (by rw [e]; simp)]
  rfl
theorem bare_nm {c : UInt8} {p : Nat × Nat} : Bare (nm c) (mk 1 p ⟨#[c]⟩ 0 []) := bare_mk _ _ _ _ _ bareL_nil
theorem sg_at {t : Tk} (h : (tk L i).1 = t) (h1 : tkT sPlu t = false) (h2 : tkT sMin t = false) : sgT 1 (tk L i) = false := by
  unfold sgT
  rw [← isT_tT, ← isT_tT, isT_at h, isT_at h, h1, h2]
  rfl
theorem first_grown (g : Gr) : ∃ t l, g.toks = t :: l ∧ tkT sPlu t = false ∧ tkT sMin t = false ∧ tkT sRap t = false ∧ tkT sRuc t = false := by
  cases g <;> exact ⟨_, _, rfl, rfl, rfl, rfl, rfl⟩
theorem first_at {g : Gr} (h : AtT L i g.toks) : sgT 1 (tk L i) = false ∧ isT L i sRap = false ∧ isT L i sRuc = false := by
  obtain ⟨t, l, e, h1, h2, h3, h4⟩ := first_grown g
  rw [e] at h
  obtain ⟨h5, _⟩ := h
  exact ⟨sg_at h5 h1 h2, by rw [isT_at h5]; exact h3, by rw [isT_at h5]; exact h4⟩
theorem lev_sign {fac : Nat → Except Nat (T1 × Nat)} {x : T1} (hs : sgT 1 (tk L i) = true) (h : levD L fac 1 (i + 1) = .ok (x, j)) (hj : opT 1 (tk L j) = false) : levD L fac 2 i = .ok (mk 12 (pos L i) (tk L i).1.text 0 [x], j) := by
  have hg : signed L i (2 - 1) = true := hs
  unfold levD
  rw [hg, if_pos rfl, h]
  simp only [if_true]
  exact bins_stop hj
theorem lev_bin {fac : Nat → Except Nat (T1 × Nat)} {x y : T1} {d j2 : Nat} (hd : d ≤ 2) (h : levD L fac d i = .ok (x, j)) (hs : sgT 1 (tk L i) = false) (ho : opT (2 - d) (tk L j) = true) (hj : j < L.length) (h2 : levD L fac d (j + 1) = .ok (y, j2)) (h3 : opT (2 - d) (tk L j2) = false) :
    levD L fac (d + 1) i = .ok (mk 11 (pos L j) (tk L j).1.text 0 [x, y], j2) := by
  have hg : signed L i (2 - d) = false := sgT_low hs (2 - d)
  unfold levD
  rw [hg, if_neg (by simp), h]
  simp only [Bool.false_eq_true, if_false]
  obtain ⟨f, hf⟩ : ∃ f, L.length + 1 = f + 1 := ⟨_, rfl⟩
  rw [hf]
  unfold binsP
  rw [show isOp L j (2 - d) = opT (2 - d) (tk L j) from rfl, ho, if_pos rfl, h2]
  dsimp only
  by_cases hk : 2 - d = 0
  · rw [if_pos hk]
  · rw [if_neg hk]
    exact bins_stop h3
end
theorem expr_bin {L : List PT} {i j j2 op : Nat} {x y : T1} (hop : op < 15) (h : factE L i = .ok (x, j)) (hs : sgT 1 (tk L i) = false) (ht : (tk L j).1 = opTk op) (h2 : factE L (j + 1) = .ok (y, j2)) (hs2 : sgT 1 (tk L (j + 1)) = false) (hj2 : ∀ k, opT k (tk L j2) = false) :
    exprP L i = .ok (mk 11 (pos L j) (opB op) 0 [x, y], j2) := by
  have ho : ∀ k, k ≤ 2 → opT k (tk L j) = decide (opLev op = k) := fun k hk => by rw [opT_at ht]; exact opK_op hop k hk
  obtain ⟨_, _, _, _, _, _, _, _, hlev, htx⟩ := op_facts op hop
  have hjl : j < L.length := tk_lt ht (by unfold opTk; split <;> simp)
  rw [← htx, ← ht]
  rcases hlev with e | e | e
  · -- the outermost level
    have a1 : levD L (factE L) 1 i = .ok (x, j) := lev_step (d := 0) h hs (by rw [ho 2 (by omega), e]; rfl)
    have a2 : levD L (factE L) 2 i = .ok (x, j) := lev_step (d := 1) a1 hs (by rw [ho 1 (by omega), e]; rfl)
    have b1 : levD L (factE L) 1 (j + 1) = .ok (y, j2) := lev_step (d := 0) h2 hs2 (hj2 _)
    have b2 : levD L (factE L) 2 (j + 1) = .ok (y, j2) := lev_step (d := 1) b1 hs2 (hj2 _)
    exact lev_bin (d := 2) (by omega) a2 hs (by rw [ho 0 (by omega), e]; rfl) hjl b2 (hj2 _)
  · have a1 : levD L (factE L) 1 i = .ok (x, j) := lev_step (d := 0) h hs (by rw [ho 2 (by omega), e]; rfl)
    have b1 : levD L (factE L) 1 (j + 1) = .ok (y, j2) := lev_step (d := 0) h2 hs2 (hj2 _)
    have c := lev_bin (d := 1) (by omega) a1 hs (by rw [ho 1 (by omega), e]; rfl) hjl b1 (hj2 _)
    exact lev_step (d := 2) c hs (hj2 _)
  · have c := lev_bin (d := 0) (fac := factE L) (by omega) h hs (by rw [ho 2 (by omega), e]; rfl) hjl h2 (hj2 _)
    exact lev_step (d := 2) (lev_step (d := 1) c hs (hj2 _)) hs (hj2 _)
theorem fact_grown {L : List PT} : ∀ (g : Gr) (i : Nat), g.fits → AtT L i g.toks → StopF (tk L (i + g.toks.length)).1 → ∃ x, factE L i = .ok (x, i + g.toks.length) ∧ Bare g.tree x := by
  have ofF : ∀ {a : Gr} {i : Nat}, (∃ x, factE L i = .ok (x, i + a.toks.length) ∧ Bare a.tree x) → AtT L i a.toks → (∀ k, opT k (tk L (i + a.toks.length)) = false) → ∃ x, exprP L i = .ok (x, i + a.toks.length) ∧ Bare a.tree x := by
    rintro a i ⟨x, h1, h2⟩ h3 h4
    exact ⟨x, expr_of_fact' h1 (first_at h3).1 h4, h2⟩
  have opz : ∀ {j : Nat} {t : Tk}, (tk L j).1 = t → StopE t → ∀ k, opT k (tk L j) = false := fun h hs k => by rw [opT_at h]; exact hs.ops k
  intro g
  induction g with
  | z =>
    intro i _ ⟨h1, _⟩ hs
    have hs : StopF (tk L (i + 1)).1 := hs
    refine ⟨mk 1 (pos L i) ⟨#[122]⟩ 0 [], ?_, bare_nm⟩
    rw [fact_name h1, design_name h1 hs.dot, des_stop hs.dot hs.hat hs.bra]
    dsimp only
    rw [if_neg (by rw [isT_tk, hs.cur]; simp), if_neg (by rw [isT_tk, hs.par]; simp)]
    rfl
  | num n =>
    intro i _ ⟨h1, _⟩ hs
    refine ⟨mk 5 (pos L i) sNil n [], ?_, bare_mk _ _ _ _ _ bareL_nil⟩
    unfold factE factP
    rw [if_pos (by rw [h1]; simp), h1]
    rfl
  | str =>
    intro i _ ⟨h1, _⟩ hs
    refine ⟨mk 7 (pos L i) ⟨#[113]⟩ 0 [], ?_, bare_mk _ _ _ _ _ bareL_nil⟩
    unfold factE factP
    rw [if_pos (by rw [h1]; decide), h1]
    rfl
  | bin op a b iha ihb =>
    intro i ⟨hop, fa, fb⟩ ⟨h1, h⟩ hs
    obtain ⟨ha, h2, h⟩ := atT_app h
    obtain ⟨hb, h3, _⟩ := atT_app h
    obtain ⟨x, e1, b1⟩ := iha (i + 1) fa ha (by rw [h2]; exact stopF_op hop)
    obtain ⟨y, e2, b2⟩ := ihb _ fb hb (by rw [h3]; exact stopE_rap.toStopF)
    have e := expr_bin hop e1 (first_at ha).1 h2 e2 (first_at hb).1 (opz h3 stopE_rap)
    refine ⟨mk 11 (pos L (i + 1 + a.toks.length)) (opB op) 0 [x, y], ?_, bare_mk 11 (0, 0) _ (opB op) 0 (bareL_2 b1 b2)⟩
    rw [fact_par (by rw [isT_at h1]; rfl) e (by rw [isT_at h3]; rfl)]
    simp only [Gr.toks, List.length_cons, List.length_append, List.length_nil]
    congr 2
    omega
  | un op a iha =>
    intro i ⟨hop, fa⟩ ⟨h1, h2, h⟩ hs
    obtain ⟨ha, h3, _⟩ := atT_app h
    obtain ⟨x, e1, b1⟩ := iha _ fa ha (by rw [h3]; exact stopE_rap.toStopF)
    have hz := opz h3 stopE_rap
    have hlen : i + 1 + 1 + a.toks.length + 1 = i + (Gr.un op a).toks.length := by simp only [Gr.toks, List.length_cons, List.length_append, List.length_nil]; omega
    rw [← hlen]
    have key : ∃ y, exprP L (i + 1) = .ok (y, i + 1 + 1 + a.toks.length) ∧ Bare (Gr.un op a).tree y := by
      by_cases h4 : op = 2
      · subst h4
        have hk : ¬ (2 ≤ (tk L (i + 1)).1.kind ∧ (tk L (i + 1)).1.kind ≤ 4) := by rw [h2]; decide
        refine ⟨mk 12 (pos L (i + 1)) sNot 0 [x], expr_of_fact' ?_ (sg_at h2 (by decide) (by decide)) hz, bare_mk 12 (0, 0) _ sNot 0 (bareL_1 b1)⟩
        unfold factE factP
        rw [if_neg hk, if_neg (by rw [isT_at h2]; decide), if_pos (by rw [isT_at h2]; rfl), fact_in, e1]
      · have hsg : sgT 1 (tk L (i + 1)) = true := by
          unfold sgT
          rw [← isT_tT, ← isT_tT, isT_at h2, isT_at h2]
          obtain rfl | rfl : op = 0 ∨ op = 1 := by omega
          · rfl
          · rfl
        have htx : (tk L (i + 1)).1.text = unB op := by rw [h2]; rfl
        have c1 : levD L (factE L) 1 (i + 1 + 1) = .ok (x, i + 1 + 1 + a.toks.length) := lev_step (d := 0) e1 (first_at ha).1 (hz _)
        have c2 := lev_sign hsg c1 (hz _)
        refine ⟨mk 12 (pos L (i + 1)) (unB op) 0 [x], ?_, bare_mk 12 (0, 0) _ _ 0 (bareL_1 b1)⟩
        rw [htx] at c2
        have hg : signed L (i + 1) (2 - 2) = false := by unfold signed; rfl
        show levD L (factE L) 3 (i + 1) = _
        unfold levD
        rw [hg, if_neg (by simp), c2]
        simp only [Bool.false_eq_true, if_false]
        exact bins_stop (hz _)
    obtain ⟨y, e, b⟩ := key
    exact ⟨y, fact_par (by rw [isT_at h1]; rfl) e (by rw [isT_at h3]; rfl), b⟩
  | idx a iha =>
    intro i fa ⟨h1, h2, h⟩ hs
    obtain ⟨ha, h3, h4, h5, h6, _⟩ := atT_app h
    obtain ⟨x, e1, b1⟩ := ofF (iha _ fa ha (by rw [h3]; exact stopE_ket.toStopF)) ha (opz h3 stopE_ket)
    have hlen : i + 1 + 1 + a.toks.length + 1 + 1 + 1 + 1 = i + (Gr.idx a).toks.length := by simp only [Gr.toks, List.length_cons, List.length_append, List.length_nil]; omega
    have hL := tk_lt h6 (by simp [na])
    rw [← hlen] at hs ⊢
    generalize i + 1 + 1 + a.toks.length = j at *
    refine ⟨mk 2 (pos L (j + 1 + 1)) ⟨#[102]⟩ 0 [mk 4 (pos L (j + 1)) sNil 0 [mk 3 (pos L (i + 1)) sNil 0 [mk 1 (pos L i) ⟨#[118]⟩ 0 [], x]]], ?_, bare_mk _ _ _ _ _ (bareL_1 (bare_mk _ _ _ _ _ (bareL_1 (bare_mk _ _ _ _ _ (bareL_2 bare_nm b1)))))⟩
    have hd : designP L (exprG L (factP L L.length)) i = .ok (mk 2 (pos L (j + 1 + 1)) ⟨#[102]⟩ 0 [mk 4 (pos L (j + 1)) sNil 0 [mk 3 (pos L (i + 1)) sNil 0 [mk 1 (pos L i) ⟨#[118]⟩ 0 [], x]]], j + 1 + 1 + 1 + 1) := by
      rw [design_name h1 (by rw [isT_at h2]; decide)]
      obtain ⟨f, hf⟩ : ∃ f, L.length + 1 = f + 1 + 1 + 1 := ⟨L.length - 2, by omega⟩
      rw [hf]
      unfold desP
      rw [if_neg (by rw [isT_at h2]; decide), if_neg (by rw [isT_at h2]; decide), if_pos (by rw [isT_at h2]; rfl), expr_in, e1]
      dsimp only
      rw [commas_stop (by rw [isT_at h3]; rfl)]
      dsimp only
      unfold need
      rw [if_pos (by rw [isT_at h3]; rfl)]
      dsimp only
      unfold desP
      rw [if_neg (by rw [isT_at h4]; decide), if_pos (by rw [isT_at h4]; rfl)]
      unfold desP
      rw [if_pos (by rw [isT_at h5]; rfl)]
      unfold dotP need
      rw [if_pos (by rw [isT_at h5]; rfl)]
      dsimp only
      rw [name_at h6]
      dsimp only
      rw [des_stop hs.dot hs.hat hs.bra, h6]
      rfl
    rw [fact_name h1, hd]
    dsimp only
    rw [if_neg (by rw [isT_tk, hs.cur]; simp), if_neg (by rw [isT_tk, hs.par]; simp)]
  | call a b iha ihb =>
    intro i ⟨fa, fb⟩ ⟨h1, h2, h⟩ hs
    obtain ⟨ha, h3, h⟩ := atT_app h
    obtain ⟨hb, h4, _⟩ := atT_app h
    obtain ⟨x, e1, b1⟩ := ofF (iha _ fa ha (by rw [h3]; exact stopE_com.toStopF)) ha (opz h3 stopE_com)
    obtain ⟨y, e2, b2⟩ := ofF (ihb _ fb hb (by rw [h4]; exact stopE_rap.toStopF)) hb (opz h4 stopE_rap)
    have hlen : i + 1 + 1 + a.toks.length + 1 + b.toks.length + 1 = i + (Gr.call a b).toks.length := by simp only [Gr.toks, List.length_cons, List.length_append, List.length_nil]; omega
    rw [← hlen]
    have hfa := (first_at ha).2.1
    have hjj : i + 1 ≤ i + 1 + 1 + a.toks.length := by omega
    generalize i + 1 + 1 + a.toks.length = j at *
    generalize j + 1 + b.toks.length = j2 at *
    refine ⟨mk 10 (pos L (i + 1)) sNil 0 [mk 1 (pos L i) ⟨#[103]⟩ 0 [], x, y], ?_, bare_mk _ _ _ _ _ (bareL_cons bare_nm (bareL_2 b1 b2))⟩
    rw [fact_name h1, design_name h1 (by rw [isT_at h2]; decide), des_stop (by rw [isT_at h2]; decide) (by rw [isT_at h2]; decide) (by rw [isT_at h2]; decide)]
    dsimp only
    rw [if_neg (by rw [isT_at h2, show tkT sCur (sy sPar) = false from by decide]; simp), if_pos (by rw [isT_at h2]; rfl)]
    unfold betweenP
    rw [if_neg (by rw [hfa]; simp)]
    unfold manyP
    rw [expr_in, e1]
    dsimp only
    unfold manyR
    rw [if_pos (by rw [isT_at h3]; rfl), expr_fun L (j + 1) i (by omega), e2]
    dsimp only
    rw [manyR_stop (by rw [isT_at h4]; rfl)]
    dsimp only
    unfold need
    rw [if_pos (by rw [isT_at h4]; rfl)]
    rfl
  | rng a b iha ihb =>
    intro i ⟨fa, fb⟩ ⟨h1, h2, h⟩ hs
    obtain ⟨ha, h3, h⟩ := atT_app h
    obtain ⟨hb, h4, _⟩ := atT_app h
    obtain ⟨x, e1, b1⟩ := ofF (iha _ fa ha (by rw [h3]; exact stopE_ran.toStopF)) ha (opz h3 stopE_ran)
    obtain ⟨y, e2, b2⟩ := ofF (ihb _ fb hb (by rw [h4]; exact stopE_ruc.toStopF)) hb (opz h4 stopE_ruc)
    have hlen : i + 1 + 1 + a.toks.length + 1 + b.toks.length + 1 = i + (Gr.rng a b).toks.length := by simp only [Gr.toks, List.length_cons, List.length_append, List.length_nil]; omega
    rw [← hlen]
    have hfa := (first_at ha).2.2
    have hjj : i + 1 ≤ i + 1 + 1 + a.toks.length := by omega
    generalize i + 1 + 1 + a.toks.length = j at *
    generalize j + 1 + b.toks.length = j2 at *
    refine ⟨mk 8 (pos L i) sNil 0 [mk 1 (pos L i) ⟨#[83]⟩ 0 [], mk 9 (pos L (i + 1 + 1)) sNil 0 [x, y]], ?_, bare_mk _ _ _ _ _ (bareL_2 bare_nm (bare_mk _ _ _ _ _ (bareL_2 b1 b2)))⟩
    rw [fact_name h1, design_name h1 (by rw [isT_at h2]; decide), des_stop (by rw [isT_at h2]; decide) (by rw [isT_at h2]; decide) (by rw [isT_at h2]; decide)]
    dsimp only
    rw [if_pos ⟨rfl, by rw [isT_at h2]; rfl⟩]
    unfold betweenP
    rw [if_neg (by rw [hfa]; simp)]
    unfold manyP elemP
    rw [expr_in, e1]
    dsimp only
    rw [if_pos (by rw [isT_at h3]; rfl), expr_fun L (j + 1) i (by omega), e2]
    dsimp only
    rw [manyR_stop (by rw [isT_at h4]; rfl)]
    dsimp only
    unfold need
    rw [if_pos (by rw [isT_at h4]; rfl)]
theorem expr_grown {L : List PT} (g : Gr) (hg : g.fits) (i : Nat) (h : AtT L i g.toks) (hs : StopE (tk L (i + g.toks.length)).1) : ∃ x, exprP L i = .ok (x, i + g.toks.length) ∧ Bare g.tree x := by
  obtain ⟨x, e, b⟩ := fact_grown g i hg h hs.toStopF
  exact ⟨x, expr_of_fact' e (first_at h).1 (fun k => by rw [opT_at rfl]; exact hs.ops k), b⟩
end Go.Proofs.Ytecmjhohniipoaa.Ex

end

section
namespace Go.Proofs.Ytecmjhohniipoaa.Num
open Go
theorem dec_big (n : Nat) (h : 9 < n) : Lib.decDigits n = Lib.decDigits (n / 10) ++ [UInt8.ofNat (48 + n % 10)] := by
  rw [Lib.decDigits, dif_neg (by omega)]
theorem dec_small (n : Nat) (h : ¬ 9 < n) : Lib.decDigits n = [UInt8.ofNat (48 + n)] := by
  rw [Lib.decDigits, dif_pos (by omega)]
def valFrom (n : Nat) (l : List UInt8) : Nat := l.foldl (fun n c => 10 * n + (c.toNat - 48)) n
def val (l : List UInt8) : Nat := valFrom 0 l
theorem val_snoc (l : List UInt8) (c : UInt8) : val (l ++ [c]) = 10 * val l + (c.toNat - 48) := by unfold val valFrom; rw [List.foldl_append]; rfl
theorem valFrom_cons (n : Nat) (c : UInt8) (l : List UInt8) : valFrom n (c :: l) = valFrom (10 * n + (c.toNat - 48)) l := by unfold valFrom; rw [List.foldl_cons]
theorem valFrom_ge (l : List UInt8) : ∀ n : Nat, n ≤ valFrom n l := by
  induction l with
  | nil => intro n; simp [valFrom]
  | cons c l ih =>
    intro n
    have := ih (10 * n + (c.toNat - 48))
    rw [valFrom_cons]; omega
def Digits (l : List UInt8) : Prop := ∀ c ∈ l, 48 ≤ c.toNat ∧ c.toNat ≤ 57
theorem digit_toNat (n : Nat) (h : n < 10) : (UInt8.ofNat (48 + n)).toNat = 48 + n := by
  rw [UInt8.toNat_ofNat']; omega
theorem val_dec (n : Nat) : val (Lib.decDigits n) = n := by
  induction n using Nat.strongRecOn with
  | ind n ih =>
    by_cases h : 9 < n
    · rw [dec_big n h, val_snoc, ih (n / 10) (by omega), digit_toNat _ (by omega)]; omega
    · rw [dec_small n h]
      show 10 * 0 + ((UInt8.ofNat (48 + n)).toNat - 48) = n
      rw [digit_toNat _ (by omega)]; omega
theorem dec_digits (n : Nat) : Digits (Lib.decDigits n) := by
  induction n using Nat.strongRecOn with
  | ind n ih =>
    intro c hc
    by_cases h : 9 < n
    · rw [dec_big n h, List.mem_append] at hc
      rcases hc with hc | hc
      · exact ih (n / 10) (by omega) c hc
      · rw [List.mem_singleton] at hc
        subst hc
        rw [digit_toNat _ (by omega)]; omega
    · rw [dec_small n h, List.mem_singleton] at hc
      subst hc
      rw [digit_toNat _ (by omega)]; omega
theorem dec_ne (n : Nat) : Lib.decDigits n ≠ [] := by
  by_cases h : 9 < n
  · rw [dec_big n h]; simp
  · rw [dec_small n h]; simp
def Good (l : List UInt8) : Prop := Digits l ∧ (∀ c, l.head? = some c → c.toNat ≠ 48) ∧ val l ≤ 1073741824
open Classical in
noncomputable def numN (l : List UInt8) : Nat := if Good l then val l else 0
end Go.Proofs.Ytecmjhohniipoaa.Num

end

section
namespace Go.Proofs.Ytecmjhohniipoaa.Ex
open Tr (Nd Fo)
open Lx (Tk noTk scanL lex at_ item isB isL isD isP isX isW twos ones symN oneN bt lex_tok lex_app lex_nil scan_lex  valN valR dgt mkNum numX)
def Brk (r : List UInt8) : Prop := isP (r.head?.getD 0) = false
theorem run_one {p : UInt8 → Bool} {c : UInt8} (hc : p c = true) {r : List UInt8} (h : p (r.head?.getD 0) = false ∨ r = []) : Lx.runN p (c :: r) = 1 := by
  rw [Lx.runN_yes hc]
  rcases r with _ | ⟨a, r⟩
  · rfl
  · rcases h with h | h
    · rw [Lx.runN_no (show p a = false from h)]
    · cases h
theorem run_all {p : UInt8 → Bool} {r : List UInt8} (h : p (r.head?.getD 0) = false ∨ r = []) : ∀ l : List UInt8, (∀ c ∈ l, p c = true) → Lx.runN p (l ++ r) = l.length
  | [], _ => by
    rcases r with _ | ⟨a, r⟩
    · rfl
    · rcases h with h | h
      · exact Lx.runN_no h r
      · cases h
  | c :: l, hl => by
    rw [List.cons_append, Lx.runN_yes (hl c (by simp)), run_all h l (fun c hc => hl c (by simp [hc]))]
    rfl
theorem item_name {c : UInt8} {r : List UInt8} (hc : isL c = true) (hb : isB c = false) (hw : isW (bt [c]) = false) (h : Brk r) : item (c :: r) = .tok (na c) 1 := by
  unfold item
  rw [if_neg (by simp [hb]), if_neg]
  · have : oneN (c :: r) = .ok (na c, 1) := by
      unfold oneN
      simp only [List.head?_cons, Option.getD_some, hc, if_true]
      have h1 : Lx.runN isP (c :: r) = 1 := run_one (by unfold isP; rw [hc]; rfl) (.inl h)
      rw [h1]
      simp only [List.take_succ_cons, List.take_zero, hw]
      rfl
    rw [this]
  · intro e
    rcases r with _ | ⟨a, r⟩
    · simp at e
    · simp at e
      rw [e.1] at hc
      exact absurd hc (by decide)
theorem item_sym {c : UInt8} {r : List UInt8} (hb : isB c = false) (hl : isL c = false) (hd : isD c = false) (hq : ¬ (c = 34 ∨ c = 39)) (ho : ones.any (fun x => some c == some x) = true) (hp : Lx.plainT (bt [c]) = sy ⟨#[c]⟩)
    (h2 : ∀ x ∈ twos, x.data.toList ≠ (c :: r).take 2) (h3 : (c :: r).take 2 ≠ [40, 42]) : item (c :: r) = .tok (sy ⟨#[c]⟩) 1 := by
  have hs : symN (c :: r) = 1 := by
    unfold symN
    rw [if_neg, if_pos]
    · exact ho
    · rw [List.any_eq_true]
      rintro ⟨x, hx, e⟩
      exact h2 x hx (by simpa using e)
  unfold item
  rw [if_neg (by simp [hb]), if_neg h3]
  have : oneN (c :: r) = .ok (sy ⟨#[c]⟩, 1) := by
    unfold oneN
    simp only [List.head?_cons, Option.getD_some, hl, hd, hq, hs, Bool.false_eq_true, if_false]
    simp only [List.take_succ_cons, List.take_zero, hp]
    rfl
  rw [this]
theorem lex_one {c : UInt8} {r : List UInt8} {t : Tk} (h : item (c :: r) = .tok t 1) : lex (c :: r) = (lex r).map (t :: ·) := by
  rw [lex_tok (by simp) h]; rfl
theorem take2 (c : UInt8) (r : List UInt8) : (c :: r).take 2 = [c] ∧ r = [] ∨ ∃ a r', r = a :: r' ∧ (c :: r).take 2 = [c, a] := by
  rcases r with _ | ⟨a, r⟩
  · exact .inl ⟨rfl, rfl⟩
  · exact .inr ⟨a, r, rfl, rfl⟩
theorem lex_sym1 (c : UInt8) (r : List UInt8) (hb : isB c = false) (hl : isL c = false) (hd : isD c = false) (hq : ¬ (c = 34 ∨ c = 39)) (ho : ones.any (fun x => some c == some x) = true) (hp : Lx.plainT (bt [c]) = sy ⟨#[c]⟩)
    (h2 : ∀ x ∈ twos, x.data.toList.head? ≠ some c) (h3 : c ≠ 40) : lex (c :: r) = (lex r).map (sy ⟨#[c]⟩ :: ·) := by
  refine lex_one (item_sym hb hl hd hq ho hp (fun x hx e => h2 x hx (by rw [e]; rfl)) (fun e => ?_))
  rcases take2 c r with ⟨e2, _⟩ | ⟨a, r', _, e2⟩
  · rw [e2] at e; simp at e
  · rw [e2] at e; simp at e; exact h3 e.1
theorem lex_par (r : List UInt8) (h : r.head? ≠ some 42) : lex (40 :: r) = (lex r).map (sy sPar :: ·) := lex_one (item_par r h)
theorem lex_rap (r : List UInt8) : lex (41 :: r) = (lex r).map (sy sRap :: ·) := lex_one (item_rap r)
theorem lex_ket (r : List UInt8) : lex (93 :: r) = (lex r).map (sy sKet :: ·) := lex_sym1 93 r (by decide) (by decide) (by decide) (by decide) (by decide) rfl (by decide) (by decide)
theorem lex_bra (r : List UInt8) : lex (91 :: r) = (lex r).map (sy sBra :: ·) := lex_sym1 91 r (by decide) (by decide) (by decide) (by decide) (by decide) rfl (by decide) (by decide)
theorem lex_hat (r : List UInt8) : lex (94 :: r) = (lex r).map (sy sHat :: ·) := lex_sym1 94 r (by decide) (by decide) (by decide) (by decide) (by decide) rfl (by decide) (by decide)
theorem lex_com (r : List UInt8) : lex (44 :: r) = (lex r).map (sy sCom :: ·) := lex_sym1 44 r (by decide) (by decide) (by decide) (by decide) (by decide) rfl (by decide) (by decide)
theorem lex_cur (r : List UInt8) : lex (123 :: r) = (lex r).map (sy sCur :: ·) := lex_sym1 123 r (by decide) (by decide) (by decide) (by decide) (by decide) rfl (by decide) (by decide)
theorem lex_ruc (r : List UInt8) : lex (125 :: r) = (lex r).map (sy sRuc :: ·) := lex_sym1 125 r (by decide) (by decide) (by decide) (by decide) (by decide) rfl (by decide) (by decide)
theorem lex_dotf (r : List UInt8) (h : Brk r) : lex (46 :: 102 :: r) = (lex r).map (fun l => sy sDot :: na 102 :: l) := by
  rw [lex_one (item_sym (c := 46) (r := 102 :: r) (by decide) (by decide) (by decide) (by decide) (by decide) rfl (by show ∀ x ∈ twos, x.data.toList ≠ [46, 102]; decide) (by show [46, 102] ≠ [40, 42]; decide)),
    lex_one (item_name (by decide) (by decide) (by decide) h)]
  cases lex r <;> rfl
theorem lex_name (c : UInt8) (r : List UInt8) (hc : isL c = true) (hb : isB c = false) (hw : isW (bt [c]) = false) (h : Brk r) : lex (c :: r) = (lex r).map (na c :: ·) := lex_one (item_name hc hb hw h)
theorem lex_str (r : List UInt8) : lex (39 :: 113 :: 39 :: r) = (lex r).map (⟨4, ⟨#[113]⟩, 0⟩ :: ·) := by
  have h1 : oneN (39 :: 113 :: 39 :: r) = .ok (⟨4, ⟨#[113]⟩, 0⟩, 3) := by
    unfold oneN
    have h2 : Lx.runN (fun x : UInt8 => x != 39 && x != 10) (113 :: 39 :: r) = 1 := by
      rw [Lx.runN_yes (by decide), Lx.runN_no (by decide)]
    simp only [List.head?_cons, Option.getD_some, List.tail_cons, h2]
    rw [if_neg (show ¬ isL 39 = true by decide), if_neg (show ¬ isD 39 = true by decide), if_pos (show (39 : UInt8) = 34 ∨ True from .inr trivial), if_neg (by simp)]
    rfl
  have h3 : item (39 :: 113 :: 39 :: r) = .tok ⟨4, ⟨#[113]⟩, 0⟩ 3 := by
    unfold item
    rw [if_neg (show ¬ isB ((39 :: 113 :: 39 :: r : List UInt8).head?.getD 0) = true by simp [isB]), if_neg (by simp), h1]
  rw [lex_tok (by simp) h3]
  rfl
theorem valN_dec : ∀ (l : List UInt8) (n : Nat), Num.Digits l → Num.valFrom n l ≤ 65535 → valN 10 65535 n l = some (Num.valFrom n l)
  | [], n, _, h => by
    unfold valN
    rw [if_pos (show n ≤ 65535 from h)]; rfl
  | c :: l, n, hd, h => by
    have hc := hd c (by simp)
    rw [Num.valFrom_cons] at h ⊢
    have hge := Num.valFrom_ge l (10 * n + (c.toNat - 48))
    unfold valN
    have hg : dgt c = c.toNat - 48 := by unfold dgt; rw [if_neg (by omega)]
    rw [hg, if_neg (by omega), Nat.mul_comm n 10]
    exact valN_dec l _ (fun c hc => hd c (by simp [hc])) h
theorem valR_dec (n : Nat) (h : n ≤ 65535) : valR 10 65535 (Lib.decDigits n) = some n := by
  unfold valR
  rw [if_neg (Num.dec_ne n)]
  have hv : Num.valFrom 0 (Lib.decDigits n) = n := Num.val_dec n
  rw [valN_dec _ 0 (Num.dec_digits n) (by omega), hv]
theorem isD_of {c : UInt8} (h : 48 ≤ c.toNat ∧ c.toNat ≤ 57) : isD c = true := by unfold isD; simp [h.1, h.2]
theorem lex_num (n : Nat) (hn : n ≤ 65535) (r : List UInt8) (h : Brk r) : lex (Lib.decDigits n ++ r) = (lex r).map (⟨2, sNil, n⟩ :: ·) := by
  have hdig := Num.dec_digits n
  have hne := Num.dec_ne n
  have hval := valR_dec n hn
  generalize Lib.decDigits n = l at *
  obtain ⟨c, l', rfl⟩ : ∃ c l', l = c :: l' := by cases l <;> simp_all
  have hc := hdig c (by simp)
  have hx : isX (r.head?.getD 0) = false := by
    unfold Brk isP at h
    unfold isX
    rw [Bool.or_eq_false_iff] at h
    rw [h.2]
    have := h.1
    unfold isL at this
    simp only [Bool.false_or, Bool.and_eq_false_iff, decide_eq_false_iff_not, Bool.or_eq_false_iff] at this ⊢
    omega
  have hrun : Lx.runN isX (c :: l' ++ r) = (c :: l').length := run_all (.inl hx) _ (fun d hd => by unfold isX; rw [isD_of (hdig d hd)]; rfl)
  have h72 : ¬ (c :: l' ++ r)[(c :: l').length]? = some 72 := by
    rw [List.getElem?_append_right (Nat.le_refl _), Nat.sub_self]
    intro e
    unfold Brk at h
    rw [← List.head?_eq_getElem?] at e
    rw [e] at h
    exact absurd h (by decide)
  have hlast : ∃ x, (c :: l').getLast?.getD 0 = x ∧ x.toNat ≤ 57 := by
    refine ⟨_, rfl, ?_⟩
    cases e : (c :: l').getLast? with
    | none => simp
    | some x =>
      have := hdig x (List.mem_of_getLast? e)
      exact this.2
  obtain ⟨x, ex, hx57⟩ := hlast
  have hnum : Lx.numN (c :: l') = some ⟨2, sNil, n⟩ := by
    unfold Lx.numN numX
    rw [ex, if_neg (by intro e; rw [e] at hx57; exact absurd hx57 (by decide)), hval]
    rfl
  have hone : oneN (c :: l' ++ r) = .ok (⟨2, sNil, n⟩, (c :: l').length) := by
    unfold oneN
    have e1 : (c :: l' ++ r).head?.getD 0 = c := rfl
    have e2 : isL c = false := by unfold isL; simp; omega
    rw [e1, hrun]
    simp only [e2, isD_of hc, Bool.false_eq_true, if_false, if_true]
    rw [if_neg h72, List.take_left' rfl, hnum]
  have hit : item (c :: l' ++ r) = .tok ⟨2, sNil, n⟩ (c :: l').length := by
    have e3 : isB c = false := by unfold isB; simp only [Bool.or_eq_false_iff, beq_eq_false_iff_ne, ne_eq]; refine ⟨⟨⟨?_, ?_⟩, ?_⟩, ?_⟩ <;> (intro e; rw [e] at hc; exact absurd hc.1 (by decide))
    unfold item
    rw [show (c :: l' ++ r).head?.getD 0 = c from rfl, if_neg (by simp [e3]), if_neg, hone]
    intro e
    have : (c :: l' ++ r).head? = some 40 := by
      have e4 := congrArg List.head? e
      simpa using e4
    simp at this
    rw [this] at hc
    exact absurd hc.1 (by decide)
  rw [lex_tok (by simp) hit, List.drop_left' rfl]
def unT (k : Nat) : List UInt8 := (unB k).data.toList
def opTx (k : Nat) : List UInt8 := (opB k).data.toList
def Gr.text : Gr → List UInt8
  | .z => [122]
  | .bin op a b => 40 :: (a.text ++ 32 :: (opTx op ++ 32 :: (b.text ++ [41])))
  | .un op a => 40 :: (unT op ++ 32 :: (a.text ++ [41]))
  | .num n => Lib.decDigits n
  | .idx a => 118 :: 91 :: (a.text ++ [93, 94, 46, 102])
  | .call a b => 103 :: 40 :: (a.text ++ 44 :: 32 :: (b.text ++ [41]))
  | .rng a b => 83 :: 123 :: (a.text ++ 32 :: 46 :: 46 :: 32 :: (b.text ++ [125]))
  | .str => [39, 113, 39]
theorem lex_ops : ∀ k, k < 15 → lex (opTx k) = some [opTk k] := by
  intro k hk
  iterate 15 (rcases k with _ | k; · kernel_rfl)
  omega
theorem lex_uns : ∀ k, k < 3 → lex (unT k) = some [unTk k] ∧ (unT k).head? ≠ some 42 ∧ unT k ≠ [] := by
  intro k hk
  iterate 3 (rcases k with _ | k; · exact ⟨by kernel_rfl, by decide, by decide⟩)
  omega
theorem lex_rans : lex [46, 46] = some [sy sRan] := by kernel_rfl
theorem dec_first (n : Nat) (r : List UInt8) : (Lib.decDigits n ++ r).head? ≠ some 42 := by
  have h1 := Num.dec_digits n
  have h2 := Num.dec_ne n
  generalize Lib.decDigits n = l at *
  obtain ⟨c, l', rfl⟩ : ∃ c l', l = c :: l' := by cases l <;> simp_all
  intro e
  simp at e
  have := (h1 c (by simp)).1
  rw [e] at this
  exact absurd this (by decide)
theorem text_first (g : Gr) (r : List UInt8) : (g.text ++ r).head? ≠ some 42 := by
  cases g with
  | num n => exact dec_first n r
  | z => simp [Gr.text]
  | str => simp [Gr.text]
  | bin op a b => simp [Gr.text]
  | un op a => simp [Gr.text]
  | idx a => simp [Gr.text]
  | call a b => simp [Gr.text]
  | rng a b => simp [Gr.text]
theorem map_map_o {α β γ : Type} (f : α → β) (g : β → γ) (x : Option α) : (x.map f).map g = x.map (fun a => g (f a)) := by cases x <;> rfl
theorem brk_of {c : UInt8} {r : List UInt8} (h : isP c = false) : Brk (c :: r) := h
theorem brk_sp (r : List UInt8) : Brk (32 :: r) := brk_of (by decide)
theorem lex_text : ∀ (g : Gr) (r : List UInt8), g.fits → Brk r → lex (g.text ++ r) = (lex r).map (g.toks ++ ·)
  | .z, r, _, h => lex_name 122 r (by decide) (by decide) (by decide) h
  | .str, r, _, h => lex_str r
  | .num n, r, hf, h => lex_num n hf r h
  | .bin op a b, r, ⟨hop, fa, fb⟩, h => by
    have e1 : (Gr.bin op a b).text ++ r = 40 :: (a.text ++ 32 :: (opTx op ++ 32 :: (b.text ++ 41 :: r))) := by simp [Gr.text]
    rw [e1, lex_par _ (text_first a _), lex_text a _ fa (brk_sp _), Lx.lex_sp, lex_app _ _ _ _ (Nat.le_refl _) (lex_ops op hop), lex_text b _ fb (brk_of (by decide)), lex_rap]
    simp only [map_map_o, Gr.toks, List.cons_append, List.append_assoc, List.nil_append]
  | .un op a, r, ⟨hop, fa⟩, h => by
    obtain ⟨h1, h2, h3⟩ := lex_uns op hop
    have e1 : (Gr.un op a).text ++ r = 40 :: (unT op ++ 32 :: (a.text ++ 41 :: r)) := by simp [Gr.text]
    rw [e1, lex_par _ (by rw [Lx.head_app h3]; exact h2), lex_app _ _ _ _ (Nat.le_refl _) h1, lex_text a _ fa (brk_of (by decide)), lex_rap]
    simp only [map_map_o, Gr.toks, List.cons_append, List.append_assoc, List.nil_append]
  | .idx a, r, fa, h => by
    have e1 : (Gr.idx a).text ++ r = 118 :: 91 :: (a.text ++ 93 :: 94 :: 46 :: 102 :: r) := by simp [Gr.text]
    rw [e1, lex_name 118 _ (by decide) (by decide) (by decide) (brk_of (by decide)), lex_bra, lex_text a _ fa (brk_of (by decide)), lex_ket, lex_hat, lex_dotf r h]
    simp only [map_map_o, Gr.toks, List.cons_append, List.append_assoc, List.nil_append]
  | .call a b, r, ⟨fa, fb⟩, h => by
    have e1 : (Gr.call a b).text ++ r = 103 :: 40 :: (a.text ++ 44 :: 32 :: (b.text ++ 41 :: r)) := by simp [Gr.text]
    rw [e1, lex_name 103 _ (by decide) (by decide) (by decide) (brk_of (by decide)), lex_par _ (text_first a _), lex_text a _ fa (brk_of (by decide)), lex_com, Lx.lex_sp, lex_text b _ fb (brk_of (by decide)), lex_rap]
    simp only [map_map_o, Gr.toks, List.cons_append, List.append_assoc, List.nil_append]
  | .rng a b, r, ⟨fa, fb⟩, h => by
    have e1 : (Gr.rng a b).text ++ r = 83 :: 123 :: (a.text ++ 32 :: ([46, 46] ++ 32 :: (b.text ++ 125 :: r))) := by simp [Gr.text]
    rw [e1, lex_name 83 _ (by decide) (by decide) (by decide) (brk_of (by decide)), lex_cur, lex_text a _ fa (brk_sp _), Lx.lex_sp, lex_app _ _ _ _ (Nat.le_refl _) lex_rans, lex_text b _ fb (brk_of (by decide)), lex_ruc]
    simp only [map_map_o, Gr.toks, List.cons_append, List.append_assoc, List.nil_append]
theorem lex_texts (g : Gr) (hg : g.fits) : lex g.text = some g.toks := by
  have := lex_text g [] hg (show isP 0 = false by decide)
  rw [List.append_nil] at this
  rw [this, lex_nil]
  simp
end Go.Proofs.Ytecmjhohniipoaa.Ex

end

section
namespace Go.Proofs.Ytecmjhohniipoaa.Ex
open Tr (Nd Fo)
open Lx (Tk noTk scanL lex at_ lex_app lex_nil scan_lex bt)
def grownP : Nat → List (Nat × Nat) → Gr × Nat
  | 0, _ => (.z, 0)
  | _ + 1, [] => (.z, 0)
  | d + 1, (a, n) :: l =>
    if a % 9 ≤ 2 then (.bin (n % 15) (grownP d l).1 (grownP d (l.drop (grownP d l).2)).1, 1 + (grownP d l).2 + (grownP d (l.drop (grownP d l).2)).2)
    else if a % 9 = 3 then (.un (n % 3) (grownP d l).1, 1 + (grownP d l).2)
    else if a % 9 = 4 then (.num n, 1)
    else if a % 9 = 5 then (.idx (grownP d l).1, 1 + (grownP d l).2)
    else if a % 9 = 6 then (.call (grownP d l).1 (grownP d (l.drop (grownP d l).2)).1, 1 + (grownP d l).2 + (grownP d (l.drop (grownP d l).2)).2)
    else if a % 9 = 7 then (.rng (grownP d l).1 (grownP d (l.drop (grownP d l).2)).1, 1 + (grownP d l).2 + (grownP d (l.drop (grownP d l).2)).2)
    else (.str, 1)
theorem grownP_succ (d a n : Nat) (l : List (Nat × Nat)) : grownP (d + 1) ((a, n) :: l) =
    if a % 9 ≤ 2 then (.bin (n % 15) (grownP d l).1 (grownP d (l.drop (grownP d l).2)).1, 1 + (grownP d l).2 + (grownP d (l.drop (grownP d l).2)).2)
    else if a % 9 = 3 then (.un (n % 3) (grownP d l).1, 1 + (grownP d l).2)
    else if a % 9 = 4 then (.num n, 1)
    else if a % 9 = 5 then (.idx (grownP d l).1, 1 + (grownP d l).2)
    else if a % 9 = 6 then (.call (grownP d l).1 (grownP d (l.drop (grownP d l).2)).1, 1 + (grownP d l).2 + (grownP d (l.drop (grownP d l).2)).2)
    else if a % 9 = 7 then (.rng (grownP d l).1 (grownP d (l.drop (grownP d l).2)).1, 1 + (grownP d l).2 + (grownP d (l.drop (grownP d l).2)).2)
    else (.str, 1) := rfl
theorem op_sizes : ∀ k, k < 15 → (opTx k).length ≤ 3 := by decide
theorem un_sizes : ∀ k, k < 3 → (unT k).length ≤ 3 := by decide
theorem dec_length (n : Nat) (h : n ≤ 65535) : (Lib.decDigits n).length ≤ 5 := by
  have h1 : ∀ (k n : Nat), n < 10 ^ (k + 1) → (Lib.decDigits n).length ≤ k + 1 := by
    intro k
    induction k with
    | zero => intro n hn; rw [Num.dec_small n (by omega)]; simp
    | succ k ih =>
      intro n hn
      by_cases h9 : 9 < n
      · rw [Num.dec_big n h9, List.length_append]
        have := ih (n / 10) (by rw [Nat.pow_succ] at hn; omega)
        simp only [List.length_singleton]
        omega
      · rw [Num.dec_small n h9]; simp
  exact h1 4 n (by omega)
theorem nm_cnt (c : UInt8) : cntT (nm c) = 1 := rfl
theorem grown_ok : ∀ (d : Nat) (l : List (Nat × Nat)), (∀ s ∈ l, s.2 ≤ 65535) → (grownP d l).1.fits ∧ (grownP d l).2 ≤ l.length ∧ (grownP d l).1.text.length ≤ 9 * (grownP d l).2 + 1 ∧ cntT (grownP d l).1.tree ≤ 4 * (grownP d l).2 + 1
  | 0, l, _ => ⟨trivial, Nat.zero_le _, by simp [grownP, Gr.text], by simp [grownP, Gr.tree, nm_cnt]⟩
  | d + 1, [], _ => ⟨trivial, Nat.zero_le _, by simp [grownP, Gr.text], by simp [grownP, Gr.tree, nm_cnt]⟩
  | d + 1, (a, n) :: l, h => by
    have hl : ∀ s ∈ l, s.2 ≤ 65535 := fun s hs => h s (by simp [hs])
    have hn : n ≤ 65535 := h (a, n) (by simp)
    obtain ⟨f1, u1, t1, c1⟩ := grown_ok d l hl
    obtain ⟨f2, u2, t2, c2⟩ := grown_ok d (l.drop (grownP d l).2) (fun s hs => hl s (List.mem_of_mem_drop hs))
    rw [List.length_drop] at u2
    have ho := op_sizes (n % 15) (by omega)
    have hu := un_sizes (n % 3) (by omega)
    have hd := dec_length n hn
    unfold grownP
    generalize (grownP d l).1 = ga at *
    generalize (grownP d l).2 = k at *
    generalize (grownP d (l.drop k)).1 = gb at *
    generalize (grownP d (l.drop k)).2 = m at *
    split
    · refine ⟨⟨by omega, f1, f2⟩, ?_, ?_, ?_⟩
      · simp only [List.length_cons]; omega
      · simp only [Gr.text, List.length_cons, List.length_append, List.length_nil]; omega
      · simp only [Gr.tree]; rw [cnt_2]; omega
    · split
      · refine ⟨⟨by omega, f1⟩, ?_, ?_, ?_⟩
        · simp only [List.length_cons]; omega
        · simp only [Gr.text, List.length_cons, List.length_append, List.length_nil]; omega
        · simp only [Gr.tree]; rw [cnt_1]; omega
      · split
        · refine ⟨hn, ?_, ?_, ?_⟩
          · simp only [List.length_cons]; omega
          · simp only [Gr.text]; omega
          · simp only [Gr.tree]; rw [cnt_mk, cntL_nil]; omega
        · split
          · refine ⟨f1, ?_, ?_, ?_⟩
            · simp only [List.length_cons]; omega
            · simp only [Gr.text, List.length_cons, List.length_append, List.length_nil]; omega
            · simp only [Gr.tree]; rw [cnt_1, cnt_1, cnt_2, nm_cnt]; omega
          · split
            · refine ⟨⟨f1, f2⟩, ?_, ?_, ?_⟩
              · simp only [List.length_cons]; omega
              · simp only [Gr.text, List.length_cons, List.length_append, List.length_nil]; omega
              · simp only [Gr.tree]; rw [cnt_mk, cntL_cons, cntL_cons, cntL_cons, cntL_nil, nm_cnt]; omega
            · split
              · refine ⟨⟨f1, f2⟩, ?_, ?_, ?_⟩
                · simp only [List.length_cons]; omega
                · simp only [Gr.text, List.length_cons, List.length_append, List.length_nil]; omega
                · simp only [Gr.tree]; rw [cnt_2, nm_cnt, cnt_2]; omega
              · refine ⟨trivial, ?_, ?_, ?_⟩
                · simp only [List.length_cons]; omega
                · simp only [Gr.text, List.length_cons, List.length_nil]; omega
                · simp only [Gr.tree]; rw [cnt_mk, cntL_nil]; omega
theorem atT_of {L : List PT} : ∀ (l : List Tk) (r : List Tk) (i : Nat), (∀ k, k < l.length → (tk L (i + k)).1 = ((l ++ r)[k]?).getD noTk) → AtT L i l
  | [], r, i, h => trivial
  | t :: l, r, i, h => by
    refine ⟨?_, atT_of l r (i + 1) fun k hk => ?_⟩
    · have := h 0 (by simp)
      simpa using this
    · have := h (k + 1) (by simp; omega)
      rw [show i + 1 + k = i + (k + 1) from by omega]
      simpa using this
end Go.Proofs.Ytecmjhohniipoaa.Ex

end

section
namespace Go.Proofs.Ytecmjhohniipoaa.Ex
open Go.RowKit
open Tr (Nd Fo RepS RepN Rep cellsN)
open Lx (Tk noTk Blk run_store_complexL bt)
open Fl
theorem ofNat48 (n : Nat) : UInt8.ofNat (48 + n) = 48 + UInt8.ofNat n := UInt8.ofNat_add 48 n
def digN (n : Nat) : List UInt8 := if n = 0 then [] else Lib.decDigits n
theorem digN_step (m : Nat) (h : 0 < m) (l : List UInt8) : digN m ++ l = digN (m / 10) ++ (48 + UInt8.ofNat (m % 10)) :: l := by
  unfold digN
  rw [if_neg (by omega)]
  by_cases h9 : 9 < m
  · rw [if_neg (by omega), Num.dec_big m h9, ofNat48]; simp
  · rw [if_pos (by omega), Num.dec_small m h9, ofNat48, show m % 10 = m by omega]; rfl
theorem conv_one (W : World) (z : Int) (h0 : 0 ≤ z) (h1 : z < 256) : (convert 90 9 (.slice (some ⟨W.heap.size, 0, none⟩) 1 1)).run Try.prog (W.alloc (.cells #[.int .u8 z] 5)) = .ok (.string ⟨#[UInt8.ofNat z.toNat]⟩) (W.alloc (.cells #[.int .u8 z] 5)) := by
  rw [run_convert_bytes_string _ _ _ _ _ _ _ Try.underlying90 Try.underlying5 Try.underlying9]
  rw [run_bytesToString _ _ _ _ [z] (by simp [loadCells, loadCellsFrom, go_sem, Addr.add])]
  rfl
theorem str_cons (d : UInt8) (l : List UInt8) : (ByteArray.mk #[d] ++ ByteArray.mk l.toArray) = ByteArray.mk (d :: l).toArray := ByteArray.mk_append_mk [d] l
theorem below_alloc' {w wr : World} (h : Below w.heap.size w wr) (o : Obj) : Below w.heap.size w (wr.alloc o) := h.alloc h.size o
set_option maxRecDepth 100000 in
set_option maxHeartbeats 1600000 in
theorem number_any (N : Nat) (hN : N ≤ 65535) (w : World) : Calls Try.prog 44 #[.int .i64 N] w fun e w' => e = .returned (.string (bt (Lib.decDigits N))) ∧ Below w.heap.size w w' := by
  by_cases h0 : 0 < N
  · have HI := Lib.hid (show Lib.decDigits N = digN N by unfold digN; rw [if_neg (by omega)])
    go_enter Try.func44, Try.ntmps44
    go_wp2
    go_loopw [0, 3] (fun n s wr => ∃ (m : Nat) (l : List UInt8), m ≤ N ∧ n = .int .i64 m ∧ s = .string ⟨l.toArray⟩ ∧ l.length + m ≤ N ∧ Hid (digN N = digN m ++ l) ∧ Below w.heap.size w wr) (fun n _ _ => (intOf n).toNat)
    case atStart => exact ⟨N, [], Nat.le_refl _, rfl, rfl, by simp, Lib.hid (by simp), Below.refl _ _⟩
    case round =>
      obtain ⟨m, l, hm, rfl, rfl, hlen, hl, hb⟩ := hrel
      by_cases h9 : 0 < m
      · have hc := conv_one wr (48 + (m : Int) % 10) (by omega) (by omega)
        have hne : ((m : Int) != 0) = true := by simp; omega
        go_wp2
        go_roundw
        case rel => exact ⟨m / 10, (48 + UInt8.ofNat (m % 10)) :: l, by omega, by simp, by rw [str_cons], by simp; omega, Lib.hid (by rw [hl.out, digN_step m h9]), below_alloc' hb _⟩
        case measure => simp [intOf]; omega
      · obtain rfl : m = 0 := by omega
        have HE := Lib.hid (show digN N = l from by rw [hl.out]; rfl)
        clear hl
        go_wp2
        go_ret
        exact ⟨by rw [HI.out, HE.out]; rfl, hb⟩
  · obtain rfl : N = 0 := by omega
    have HI := Lib.hid (show Lib.decDigits 0 = [48] from Num.dec_small 0 (by omega))
    clear h0
    go_enter Try.func44, Try.ntmps44
    go_wp2
    go_ret
    exact ⟨by rw [HI.out]; rfl, Below.refl _ _⟩
def seedV (s : Nat × Nat) : List Value := [.int .u8 s.1, .int .u16 s.2]
def seedsV (l : List (Nat × Nat)) : List Value := l.flatMap seedV
theorem seedsV_len (l : List (Nat × Nat)) : (seedsV l).length = l.length * 2 := by
  induction l with
  | nil => rfl
  | cons s l ih => simp only [seedsV, List.flatMap_cons, List.length_append, List.length_cons] at ih ⊢; rw [ih, show (seedV s).length = 2 from rfl]; omega
structure Seeds (w : World) (A : Option Addr) (c : Nat) (l : List (Nat × Nat)) : Prop where
  reads : Reads w w.heap.size 2 A l.length (seedsV l)
  cap : l.length ≤ c
  big : c ≤ 9223372036854775807
  fit : ∀ s ∈ l, s.1 < 256 ∧ s.2 ≤ 65535
theorem Seeds.below {w w' : World} {A : Option Addr} {c : Nat} {l : List (Nat × Nat)} (h : Seeds w A c l) (hb : Below w.heap.size w w') : Seeds w' A c l :=
  ⟨(h.reads.below hb).more hb.size, h.cap, h.big, h.fit⟩
theorem seedsV_drop (l : List (Nat × Nat)) (k : Nat) : seedsV (l.drop k) = (seedsV l).drop (k * 2) := by
  induction l generalizing k with
  | nil => simp [seedsV]
  | cons s l ih =>
    cases k with
    | zero => simp
    | succ k =>
      rw [List.drop_succ_cons, ih k]
      simp only [seedsV, List.flatMap_cons]
      rw [show (k + 1) * 2 = k * 2 + 1 + 1 from by omega]
      rfl
theorem Seeds.drop {w : World} {A : Option Addr} {c : Nat} {l : List (Nat × Nat)} (h : Seeds w A c l) {k : Nat} (hk : k ≤ l.length) : Seeds w (if c = k then A else A.map (·.add (k * 2))) (c - k) (l.drop k) := by
  have hc := h.cap
  refine ⟨⟨by rw [seedsV_len], fun h0 => ?_⟩, by rw [List.length_drop]; omega, by have := h.big; omega, fun s hs => h.fit s (List.mem_of_mem_drop hs)⟩
  rw [List.length_drop] at h0
  obtain ⟨ad, e, hb, hcl⟩ := h.reads.2 (by omega)
  subst e
  rw [if_neg (by omega)]
  refine ⟨ad.add (k * 2), rfl, by rw [block_of_add]; exact hb, fun j u hu => ?_⟩
  rw [seedsV_drop, List.getElem?_drop] at hu
  rw [add_of_add]
  exact hcl _ _ hu
theorem seeds_slice {w : World} {A : Option Addr} {c : Nat} {l : List (Nat × Nat)} (h : Seeds w A c l) {k : Nat} (hk : k ≤ l.length) (kI : Int) (e : kI = (k : Nat)) :
    ∃ A', (∀ w' : World, (Instr.slice 57 (.slice A l.length c) (some (.int .i64 kI)) none none).run Try.prog w' = .ok (.slice A' (l.drop k).length (c - k)) w') ∧ Seeds w A' (c - k) (l.drop k) := by
  subst e
  refine ⟨_, fun w' => ?_, h.drop hk⟩
  have h0 : (0 : Int) ≤ (k : Int) := by omega
  have h1 : (k : Int) ≤ (l.length : Int) := by omega
  have hz : (Try.prog.elem 57) = 80 := by kernel_rfl
  simp [go_sem, h0, h1, sliced, Result.andThen, List.length_drop]
theorem Seeds.first {w : World} {A : Option Addr} {c : Nat} {s : Nat × Nat} {l : List (Nat × Nat)} (h : Seeds w A c (s :: l)) : ∃ g off, A = some ⟨g, off, none⟩ ∧ g < w.heap.size ∧ w.cell? ⟨g, off, none⟩ = some (.int .u8 s.1) ∧ w.cell? ⟨g, off + 1, none⟩ = some (.int .u16 s.2) := by
  obtain ⟨⟨g, off, sp⟩, e, hb, hc⟩ := h.reads.2 (by simp)
  have c0 := hc 0 _ rfl
  have hs : sp = none := by
    have := World.cell?_spot c0
    simpa [Addr.add] using this
  subst hs
  have c1 := hc 1 _ rfl
  refine ⟨g, off, e, hb, by simpa [Addr.add] using c0, ?_⟩
  have e1 : (⟨g, off, none⟩ : Addr).add 1 = ⟨g, off + 1, none⟩ := by unfold Addr.add; simp
  rw [e1] at c1
  exact c1
theorem mk_leaf {B : Nat} {w : World} {b : Nat} {kind : Nat} {name : ByteArray} {n : Int} (h : Tr.Blk w b 42 #[.int .u8 kind, .complex .f64 0 0, .string name, .int .i64 n, .slice none 0 0]) (hB : B ≤ b) :
    RepS (fun y => B ≤ y) w (.node (mk kind (0, 0) name n []).1 (mk kind (0, 0) name n []).2 .no) [.pointer (some ⟨b, 0, none⟩)] := by
  have h' : Tr.Blk w b 42 (cellsN ⟨kind, (0, 0), name, n⟩ (.slice none 0 0)) := by
    unfold cellsN Tr.C
    rw [fl_0]
    exact h
  unfold RepS
  exact ⟨b, none, 0, [], [], rfl, hB, h'.at_, fun h0 => absurd h0 (by simp), Reads.none_, rfl, rfl⟩
theorem mk_node {B : Nat} {w : World} {b g : Nat} {kind : Nat} {name : ByteArray} {n : Int} {l : List T1} {vs : List Value} {m : Nat} (hm : vs.length = m) (h : Tr.Blk w b 42 #[.int .u8 kind, .complex .f64 0 0, .string name, .int .i64 n, .slice (some ⟨g, 0, none⟩) m m]) (hB : B ≤ b) (hBg : B ≤ g)
    (hg : Tr.Blk w g 26 vs.toArray) (hk : RepS (fun y => B ≤ y) w (forest l) vs) :
    RepS (fun y => B ≤ y) w (.node (mk kind (0, 0) name n l).1 (mk kind (0, 0) name n l).2 .no) [.pointer (some ⟨b, 0, none⟩)] := by
  subst hm
  have h' : Tr.Blk w b 42 (cellsN ⟨kind, (0, 0), name, n⟩ (.slice (some ⟨g, 0, none⟩) vs.length vs.length)) := by
    unfold cellsN Tr.C
    rw [fl_0]
    exact h
  unfold RepS
  refine ⟨b, some ⟨g, 0, none⟩, vs.length, vs, [], rfl, hB, h'.at_, fun h0 => ⟨g, 0, rfl, hBg, hg.lt⟩, ⟨by simp, fun h0 => ⟨_, rfl, hg.lt, fun j u hu => ?_⟩⟩, hk, rfl⟩
  have := hg.cell j
  have e : (⟨g, 0, none⟩ : Addr).add j = ⟨g, j, none⟩ := by
    unfold Addr.add
    by_cases h0 : j = 0
    · subst h0; rfl
    · rw [if_neg h0]; simp
  rw [e, this]
  simpa using hu
end Go.Proofs.Ytecmjhohniipoaa.Ex

end

section
namespace Go.Proofs.Ytecmjhohniipoaa.St
open Go.RowKit
open Tr (Nd Fo)
open Lx (Tk noTk)
open Ex
def wd (s : ByteArray) : Tk := ⟨6, s, 0⟩
def nu (n : Int) : Tk := ⟨2, sNil, n⟩
inductive Bx where
  | nil : Bx
  | emp (r : Bx) : Bx
  | st (k : Nat) (e : Gr) (b r : Bx) : Bx
def Bx.isNil : Bx → Bool
  | .nil => true
  | _ => false
def oneT (k : Nat) (e t : List Tk) : List Tk := match k with
  | 0 => wd sIf :: (e ++ wd sThen :: (t ++ wd sElsif :: na 97 :: wd sThen :: wd sElse :: (t ++ [wd sEnd])))
  | 1 => wd sWhile :: (e ++ wd sDo :: (t ++ [wd sEnd]))
  | 2 => wd sRepeat :: (t ++ wd sUntil :: e)
  | 3 => wd sLoop :: (t ++ [sy sSem, wd sExit, wd sEnd])
  | 4 => wd sFor :: na 105 :: sy sAsg :: (e ++ wd sTo :: (e ++ wd sBy :: nu 2 :: wd sDo :: (t ++ [wd sEnd])))
  | 5 => wd sCase :: (e ++ wd sOf :: nu 1 :: sy sCom :: nu 2 :: sy sRan :: nu 3 :: sy sCol :: (t ++ sy sBar :: nu 4 :: sy sCol :: wd sElse :: (t ++ [wd sEnd])))
  | 6 => wd sWith :: na 114 :: sy sDot :: na 97 :: sy sHat :: wd sDo :: (t ++ [wd sEnd])
  | 7 => na 118 :: sy sBra :: (e ++ sy sKet :: sy sAsg :: e)
  | 8 => na 102 :: sy sPar :: (e ++ [sy sRap])
  | 9 => [wd sExit]
  | _ => wd sReturn :: e
def Bx.toks : Bx → List Tk
  | .nil => []
  | .emp r => if r.isNil = true then [] else sy sSem :: r.toks
  | .st k e b r => oneT k e.toks b.toks ++ (if r.isNil = true then [] else sy sSem :: r.toks)
abbrev z2 : Nat × Nat := (0, 0)
def bodyT (l : List T1) : T1 := mk 46 z2 sNil 0 l
def numT (n : Int) : T1 := mk 5 z2 sNil n []
def oneS (k : Nat) (e : T1) (l : List T1) : T1 := match k with
  | 0 => mk 62 z2 sNil 0 [e, bodyT l, nm 97, bodyT [], bodyT l]
  | 1 => mk 64 z2 sNil 0 [e, bodyT l]
  | 2 => mk 65 z2 sNil 0 [bodyT l, e]
  | 3 => mk 66 z2 sNil 0 [bodyT (l ++ [mk 67 z2 sNil 0 []])]
  | 4 => mk 68 z2 ⟨#[105]⟩ 0 [e, e, numT 2, bodyT l]
  | 5 => mk 63 z2 sNil 0 [e, mk 28 z2 sNil 0 [mk 29 z2 sNil 0 [numT 1, mk 9 z2 sNil 0 [numT 2, numT 3]], bodyT l], mk 28 z2 sNil 0 [mk 29 z2 sNil 0 [numT 4], bodyT []], mk 30 z2 sNil 0 [bodyT l]]
  | 6 => mk 69 z2 sNil 0 [mk 4 z2 sNil 0 [mk 2 z2 ⟨#[97]⟩ 0 [nm 114]], bodyT l]
  | 7 => mk 60 z2 sNil 0 [mk 3 z2 sNil 0 [nm 118, e], e]
  | 8 => mk 61 z2 sNil 0 [nm 102, e]
  | 9 => mk 67 z2 sNil 0 []
  | _ => mk 70 z2 sNil 0 [e]
def Bx.trees : Bx → List T1
  | .nil => []
  | .emp r => r.trees
  | .st k e b r => oneS k e.tree b.trees :: r.trees
def Bx.fits : Bx → Prop
  | .nil => True
  | .emp r => r.fits
  | .st k e b r => e.fits ∧ b.fits ∧ r.fits
def Bx.deep : Bx → Nat
  | .nil => 0
  | .emp r => r.deep
  | .st k e b r => if k ≤ 6 then max (b.deep + 1) r.deep else r.deep
def wds9 : List ByteArray := [sIf, sCase, sWhile, sRepeat, sLoop, sExit, sFor, sWith, sReturn]
structure StopS (t : Tk) : Prop extends StopE t where
  name : ¬ t.kind = 1
  words : wds9.all (fun s => !(decide (t.kind = 6) && decide (t.text = s))) = true
theorem stopS_of {t : Tk} (h : StopE t) (h1 : ¬ t.kind = 1) (h2 : wds9.all (fun s => !(decide (t.kind = 6) && decide (t.text = s))) = true) : StopS t := ⟨h, h1, h2⟩
theorem stopE_w (s : ByteArray) (h : tkT sDot (wd s) = false ∧ tkT sHat (wd s) = false ∧ tkT sBra (wd s) = false ∧ tkT sPar (wd s) = false ∧ tkT sCur (wd s) = false ∧ opK 0 (wd s) = false ∧ opK 1 (wd s) = false ∧ opK 2 (wd s) = false) : StopE (wd s) :=
  stopE_of h.1 h.2.1 h.2.2.1 h.2.2.2.1 h.2.2.2.2.1 h.2.2.2.2.2.1 h.2.2.2.2.2.2.1 h.2.2.2.2.2.2.2
theorem stopE_s (s : ByteArray) (h : tkT sDot (sy s) = false ∧ tkT sHat (sy s) = false ∧ tkT sBra (sy s) = false ∧ tkT sPar (sy s) = false ∧ tkT sCur (sy s) = false ∧ opK 0 (sy s) = false ∧ opK 1 (sy s) = false ∧ opK 2 (sy s) = false) : StopE (sy s) :=
  stopE_of h.1 h.2.1 h.2.2.1 h.2.2.2.1 h.2.2.2.2.1 h.2.2.2.2.2.1 h.2.2.2.2.2.2.1 h.2.2.2.2.2.2.2
theorem eS_sem : StopE (sy sSem) := stopE_s _ (by decide)
theorem eS_col : StopE (sy sCol) := stopE_s _ (by decide)
theorem eS_bar : StopE (sy sBar) := stopE_s _ (by decide)
theorem eW_then : StopE (wd sThen) := stopE_w _ (by decide)
theorem eW_do : StopE (wd sDo) := stopE_w _ (by decide)
theorem eW_of : StopE (wd sOf) := stopE_w _ (by decide)
theorem eW_to : StopE (wd sTo) := stopE_w _ (by decide)
theorem eW_by : StopE (wd sBy) := stopE_w _ (by decide)
theorem eW_end : StopE (wd sEnd) := stopE_w _ (by decide)
theorem eW_else : StopE (wd sElse) := stopE_w _ (by decide)
theorem eW_elsif : StopE (wd sElsif) := stopE_w _ (by decide)
theorem eW_until : StopE (wd sUntil) := stopE_w _ (by decide)
theorem sS_sem : StopS (sy sSem) := stopS_of eS_sem (by decide) (by decide)
theorem sS_bar : StopS (sy sBar) := stopS_of eS_bar (by decide) (by decide)
theorem sS_end : StopS (wd sEnd) := stopS_of eW_end (by decide) (by decide)
theorem sS_else : StopS (wd sElse) := stopS_of eW_else (by decide) (by decide)
theorem sS_elsif : StopS (wd sElsif) := stopS_of eW_elsif (by decide) (by decide)
theorem sS_until : StopS (wd sUntil) := stopS_of eW_until (by decide) (by decide)
theorem sS_no : StopS noTk := stopS_of stopE_no (by decide) (by decide)
section
variable {g : Nat} {L : List PT} {i : Nat}
theorem stm_stop {bd : Par T1} (h : StopS (tk L i).1) : stmS g bd L i = .ok ([], i) := by
  refine stm_none h.name fun x hx => ?_
  have hw := h.words
  rw [List.all_eq_true] at hw
  have h2 : ∀ s ∈ wds9, isWd6 s (tk L i) = false := fun s hs => by
    have := hw s hs
    unfold isWd6
    rw [Bool.not_eq_true'] at this
    exact this
  unfold alts at hx
  simp only [List.mem_cons, List.not_mem_nil, or_false] at hx
  rcases hx with rfl | rfl | rfl | rfl | rfl | rfl | rfl | rfl | rfl <;> exact h2 _ (by simp [wds9])
theorem expr_at (hg : L.length < g) (e : Gr) (he : e.fits) (h : AtT L i e.toks) (hs : StopE (tk L (i + e.toks.length)).1) : ∃ x, exprF g L i = .ok (x, i + e.toks.length) ∧ Bare e.tree x := by
  rw [← expr_fuel hg i]
  exact expr_grown e he i h hs
theorem T_at {t : Tk} (h : (tk L i).1 = t) {s : ByteArray} (hs : tkT s t = true) : isT L i s = true := by rw [isT_at h]; exact hs
theorem T_no {t : Tk} (h : (tk L i).1 = t) {s : ByteArray} (hs : tkT s t = false) : isT L i s = false := by rw [isT_at h]; exact hs
end
theorem ok_at {α : Type} {a : α} {m n : Nat} (h : m = n) : (Except.ok (a, m) : Except Nat (α × Nat)) = .ok (a, n) := by rw [h]
theorem bareL_app {b b' : List T1} (hb : BareL b b') : ∀ {a a' : List T1}, BareL a a' → BareL (a ++ b) (a' ++ b')
  | [], [], _ => hb
  | [], _ :: _, e => by simp [BareL, forest, Fo.same] at e
  | _ :: _, [], e => by simp [BareL, forest, Fo.same] at e
  | x :: a, y :: a', e => by
    simp only [BareL, forest, Fo.same, Bool.and_eq_true, decide_eq_true_eq] at e
    exact bareL_cons (bare_iff.2 ⟨e.1.1.1.1, e.1.1.1.2, e.1.1.2, e.1.2⟩) (bareL_app hb e.2)
section
variable {g f : Nat} {L : List PT}
def InB (g f : Nat) (L : List PT) (t : List Tk) (l : List T1) : Prop := ∀ i, AtT L i t → StopS (tk L (i + t.length)).1 → ¬ tkT sSem (tk L (i + t.length)).1 = true → ∃ T, bodyF g f L i = .ok (T, i + t.length) ∧ Bare (bodyT l) T
theorem need_at {α : Type} {p : Par α} {s : ByteArray} {t : Tk} {i : Nat} (h : (tk L i).1 = t) (hs : tkT s t = true) : needF s p L i = p L (i + 1) := need_y (T_at h hs)
theorem tok_yes {α : Type} {A : PT → Par α} {B : Par α} {s : ByteArray} {t : Tk} {i : Nat} (h : (tk L i).1 = t) (hs : tkT s t = true) : tokP (tT s) A B L i = A (tk L i) L (i + 1) := tok_y (t := tT s) (T_at h hs)
theorem tok_not {α : Type} {A : PT → Par α} {B : Par α} {s : ByteArray} {t : Tk} {i : Nat} (h : (tk L i).1 = t) (hs : tkT s t = false) : tokP (tT s) A B L i = B L i := tok_n (t := tT s) (T_no h hs)
theorem bareL_3 {a b c a' b' c' : T1} (h1 : Bare a a') (h2 : Bare b b') (h3 : Bare c c') : BareL [a, b, c] [a', b', c'] := bareL_cons h1 (bareL_2 h2 h3)
theorem bareL_4 {a b c d a' b' c' d' : T1} (h1 : Bare a a') (h2 : Bare b b') (h3 : Bare c c') (h4 : Bare d d') : BareL [a, b, c, d] [a', b', c', d'] := bareL_cons h1 (bareL_3 h2 h3 h4)
theorem one_while (hg : L.length < g) {e : Gr} (he : e.fits) {t : List Tk} {l : List T1} (hb : InB g f L t l) {i : Nat} (h : AtT L i (oneT 1 e.toks t)) :
    ∃ x, stmS g (bodyF g f) L i = .ok ([x], i + (oneT 1 e.toks t).length) ∧ Bare (oneS 1 e.tree l) x := by
  obtain ⟨h0, h⟩ := h
  obtain ⟨h1, h⟩ := atT_app h
  obtain ⟨h2, h⟩ := h
  obtain ⟨h3, h⟩ := atT_app h
  obtain ⟨h4, _⟩ := h
  obtain ⟨x, e1, b1⟩ := expr_at hg e he h1 (by rw [h2]; exact eW_do)
  obtain ⟨y, e2, b2⟩ := hb _ h3 (by rw [h4]; exact sS_end) (by rw [h4]; decide)
  refine ⟨mk 64 (tk L i).2.1 sNil 0 [x, y], ?_, bare_mk _ _ _ _ _ (bareL_2 b1 b2)⟩
  rw [stm_w2 (by rw [h0]; rfl) (by rw [h0]; rfl)]
  unfold whileS endS
  rw [bind_ok (bind_ok e1 |>.trans ((need_at h2 rfl).trans ((bind_ok e2).trans ((need_at h4 rfl).trans ret_))))]
  exact ok_at (by simp [oneT]; omega)
theorem expr_nm (hg : L.length < g) {c : UInt8} {i : Nat} (h : (tk L i).1 = na c) (hs : StopE (tk L (i + 1)).1) : ∃ x, exprF g L i = .ok (x, i + 1) ∧ Bare (nm c) x := by
  have hf : factE L i = .ok (mk 1 (pos L i) ⟨#[c]⟩ 0 [], i + 1) := by
    rw [fact_name h, design_name h (T_no rfl hs.dot), des_stop (T_no rfl hs.dot) (T_no rfl hs.hat) (T_no rfl hs.bra)]
    dsimp only
    rw [if_neg (by rw [isT_tk, hs.cur]; simp), if_neg (by rw [isT_tk, hs.par]; simp)]
  refine ⟨_, ?_, bare_nm (p := pos L i)⟩
  rw [← expr_fuel hg i]
  exact expr_of_fact' hf (sg_at h rfl rfl) (fun k => by rw [opT_at rfl]; exact hs.ops k)
theorem expr_nu (hg : L.length < g) {n : Nat} (hn : n ≤ 65535) {i : Nat} (h : (tk L i).1 = nu n) (hs : StopE (tk L (i + 1)).1) : ∃ x, exprF g L i = .ok (x, i + 1) ∧ Bare (numT n) x :=
  expr_at hg (.num n) hn (i := i) ⟨h, trivial⟩ hs
theorem name_yes {c : UInt8} {i : Nat} (h : (tk L i).1 = na c) : nameP L i = .ok (tk L i, i + 1) := name_at h
theorem first_not {e : Gr} {i : Nat} (h : AtT L i e.toks) : retOut (tk L i) = false ∧ armOut (tk L i) = false := by
  have : ∃ t r, e.toks = t :: r ∧ ((decide (t.kind = 0) || tkT sSem t || tkT sBar t || tkT sEnd t || tkT sElse t || tkT sElsif t || tkT sUntil t) = false) ∧ ((tkT sBar t || tkT sElse t || tkT sEnd t) = false) := by
    cases e <;> exact ⟨_, _, rfl, rfl, rfl⟩
  obtain ⟨t, r, e1, h1, h2⟩ := this
  rw [e1] at h
  obtain ⟨h3, _⟩ := h
  have hT : ∀ s, tT s (tk L i) = tkT s t := fun s => isT_at h3 s
  unfold retOut armOut
  rw [h3, hT, hT, hT, hT, hT, hT]
  exact ⟨h1, h2⟩
theorem one_repeat (hg : L.length < g) {e : Gr} (he : e.fits) {t : List Tk} {l : List T1} (hb : InB g f L t l) {i : Nat} (h : AtT L i (oneT 2 e.toks t)) (hs : StopE (tk L (i + (oneT 2 e.toks t).length)).1) :
    ∃ x, stmS g (bodyF g f) L i = .ok ([x], i + (oneT 2 e.toks t).length) ∧ Bare (oneS 2 e.tree l) x := by
  obtain ⟨h0, h⟩ := h
  obtain ⟨h1, h⟩ := atT_app h
  obtain ⟨h2, h3⟩ := h
  obtain ⟨y, e2, b2⟩ := hb _ h1 (by rw [h2]; exact sS_until) (by rw [h2]; decide)
  have hl : i + (oneT 2 e.toks t).length = i + 1 + t.length + 1 + e.toks.length := by simp [oneT]; omega
  rw [hl] at hs ⊢
  obtain ⟨x, e1, b1⟩ := expr_at hg e he h3 hs
  refine ⟨mk 65 (tk L i).2.1 sNil 0 [y, x], ?_, bare_mk _ _ _ _ _ (bareL_2 b2 b1)⟩
  rw [stm_w3 (by rw [h0]; rfl) (by rw [h0]; rfl)]
  have key : repS g (bodyF g f) (tk L i).2.1 L (i + 1) = .ok (mk 65 (tk L i).2.1 sNil 0 [y, x], i + 1 + t.length + 1 + e.toks.length) := by
    unfold repS
    refine (bind_ok e2).trans ((need_at h2 rfl).trans ((bind_ok e1).trans ?_))
    rfl
  rw [bind_ok key]
  rfl
theorem one_loop {t : List Tk} {l : List T1} (hb : InB g f L (t ++ [sy sSem, wd sExit]) (l ++ [mk 67 z2 sNil 0 []])) {e : Gr} {i : Nat} (h : AtT L i (oneT 3 e.toks t)) :
    ∃ x, stmS g (bodyF g f) L i = .ok ([x], i + (oneT 3 e.toks t).length) ∧ Bare (oneS 3 e.tree l) x := by
  obtain ⟨h0, h⟩ := h
  rw [show t ++ [sy sSem, wd sExit, wd sEnd] = (t ++ [sy sSem, wd sExit]) ++ [wd sEnd] by simp] at h
  obtain ⟨h1, h2, _⟩ := atT_app h
  obtain ⟨y, e2, b2⟩ := hb _ h1 (by rw [h2]; exact sS_end) (by rw [h2]; decide)
  refine ⟨mk 66 (tk L i).2.1 sNil 0 [y], ?_, bare_mk _ _ _ _ _ (bareL_1 b2)⟩
  rw [stm_w4 (by rw [h0]; rfl) (by rw [h0]; rfl)]
  unfold loopS endS
  rw [bind_ok (bind_ok e2 |>.trans ((need_at h2 rfl).trans ret_))]
  exact ok_at (by simp [oneT]; omega)
theorem one_exit {t : List Tk} {l : List T1} {e : Gr} {i : Nat} (h : AtT L i (oneT 9 e.toks t)) :
    ∃ x, stmS g (bodyF g f) L i = .ok ([x], i + (oneT 9 e.toks t).length) ∧ Bare (oneS 9 e.tree l) x := by
  obtain ⟨h0, _⟩ := h
  refine ⟨mk 67 (tk L i).2.1 sNil 0 [], ?_, bare_mk _ _ _ _ _ bareL_nil⟩
  rw [stm_w5 (by rw [h0]; rfl) (by rw [h0]; rfl)]
  unfold exitS
  rw [bind_ok ret_]
  rfl
theorem one_return (hg : L.length < g) {e : Gr} (he : e.fits) {t : List Tk} {l : List T1} {i : Nat} (h : AtT L i (oneT 10 e.toks t)) (hs : StopE (tk L (i + (oneT 10 e.toks t).length)).1) :
    ∃ x, stmS g (bodyF g f) L i = .ok ([x], i + (oneT 10 e.toks t).length) ∧ Bare (oneS 10 e.tree l) x := by
  obtain ⟨h0, h1⟩ := h
  have hl : i + (oneT 10 e.toks t).length = i + 1 + e.toks.length := by simp [oneT]; omega
  rw [hl] at hs ⊢
  obtain ⟨x, e1, b1⟩ := expr_at hg e he h1 hs
  refine ⟨mk 70 (tk L i).2.1 sNil 0 [x], ?_, bare_mk _ _ _ _ _ (bareL_1 b1)⟩
  rw [stm_w8 (by rw [h0]; rfl) (by rw [h0]; rfl)]
  have hr : returnS g (tk L i).2.1 L (i + 1) = .ok (mk 70 (tk L i).2.1 sNil 0 [x], i + 1 + e.toks.length) := by
    unfold returnS posP
    dsimp only
    rw [if_neg (by rw [(first_not h1).1]; simp), bind_ok e1]
    rfl
  rw [bind_ok hr]
  rfl
theorem one_for (hg : L.length < g) {e : Gr} (he : e.fits) {t : List Tk} {l : List T1} (hb : InB g f L t l) {i : Nat} (h : AtT L i (oneT 4 e.toks t)) :
    ∃ x, stmS g (bodyF g f) L i = .ok ([x], i + (oneT 4 e.toks t).length) ∧ Bare (oneS 4 e.tree l) x := by
  obtain ⟨h0, h00, h01, h⟩ := h
  obtain ⟨h1, h⟩ := atT_app h
  obtain ⟨h2, h⟩ := h
  obtain ⟨h3, h⟩ := atT_app h
  obtain ⟨h4, h5, h6, h⟩ := h
  obtain ⟨h7, h8, _⟩ := atT_app h
  obtain ⟨x, e1, b1⟩ := expr_at hg e he h1 (by rw [h2]; exact eW_to)
  obtain ⟨y, e2, b2⟩ := expr_at hg e he h3 (by rw [h4]; exact eW_by)
  obtain ⟨z, e3, b3⟩ := expr_nu hg (n := 2) (by decide) h5 (by rw [h6]; exact eW_do)
  obtain ⟨w, e4, b4⟩ := hb _ h7 (by rw [h8]; exact sS_end) (by rw [h8]; decide)
  have hn : (tk L (i + 1)).1.text = ⟨#[105]⟩ := by rw [h00]; rfl
  refine ⟨mk 68 (tk L i).2.1 (tk L (i + 1)).1.text 0 [x, y, z, w], ?_, by rw [hn]; exact bare_mk _ _ _ _ _ (bareL_4 b1 b2 b3 b4)⟩
  rw [stm_w6 (by rw [h0]; rfl) (by rw [h0]; rfl)]
  unfold forS forE endS
  rw [bind_ok ((tok_y (t := isNm) (show isNm (tk L (i + 1)) = true by unfold isNm; rw [h00]; rfl)).trans ((need_at h01 rfl).trans ((bind_ok e1).trans ((need_at h2 rfl).trans ((bind_ok e2).trans ((tok_yes h4 rfl).trans ((bind_ok e3).trans ((need_at h6 rfl).trans ((bind_ok e4).trans ((need_at h8 rfl).trans ret_))))))))))]
  exact ok_at (by simp [oneT]; omega)
theorem one_call (hg : L.length < g) {e : Gr} (he : e.fits) {t : List Tk} {l : List T1} {i : Nat} (h : AtT L i (oneT 8 e.toks t)) :
    ∃ x, stmS g (bodyF g f) L i = .ok ([x], i + (oneT 8 e.toks t).length) ∧ Bare (oneS 8 e.tree l) x := by
  obtain ⟨h0, h1, h⟩ := h
  obtain ⟨h2, h3, _⟩ := atT_app h
  obtain ⟨x, e1, b1⟩ := expr_at hg e he h2 (by rw [h3]; exact stopE_rap)
  obtain ⟨n, hn⟩ : ∃ n, g = n + 1 := ⟨g - 1, by omega⟩
  have hd : designF (exprF g) g L i = .ok (mk 1 (tk L i).2.1 (tk L i).1.text 0 [], i + 1) := by
    have a1 : ∀ m x, dotsF m x L (i + 1) = .ok (x, i + 1) := fun m x => by
      cases m with
      | zero => rfl
      | succ m => exact (tok_not h1 rfl).trans ret_
    have a2 : ∀ m x, desF (exprF g) g m x L (i + 1) = .ok (x, i + 1) := fun m x => by
      cases m with
      | zero => rfl
      | succ m => exact (tok_not h1 rfl).trans ((tok_not h1 rfl).trans ((tok_not h1 rfl).trans ret_))
    exact (bind_ok ((bind_ok (name_yes h0)).trans (a1 _ _))).trans (a2 _ _)
  have hm : manyF (exprF g) g L (i + 1 + 1) = .ok ([x], i + 1 + 1 + e.toks.length) := by
    refine (bind_ok e1).trans ?_
    rw [congrArg (fun k => manyRF (exprF g) k [x] L (i + 1 + 1 + e.toks.length)) hn]
    exact (tok_not h3 rfl).trans ret_
  have hbt : betweenF (exprF g) g sRap L (i + 1 + 1) = .ok ([x], i + 1 + 1 + e.toks.length + 1) :=
    (tok_n (t := tT sRap) (first_at h2).2.1).trans ((bind_ok hm).trans ((need_at h3 rfl).trans ret_))
  have hc : (tk L i).1.text = ⟨#[102]⟩ := by rw [h0]; rfl
  refine ⟨mk 61 (tk L i).2.1 sNil 0 [mk 1 (tk L i).2.1 (tk L i).1.text 0 [], x], ?_, bare_mk _ _ _ _ _ (bareL_2 (by rw [hc]; exact bare_nm) b1)⟩
  rw [stm_name (by rw [h0]; rfl)]
  have hp : plainS g L i = .ok (mk 61 (tk L i).2.1 sNil 0 [mk 1 (tk L i).2.1 (tk L i).1.text 0 [], x], i + 1 + 1 + e.toks.length + 1) := by
    refine (bind_ok hd).trans ?_
    unfold posP
    dsimp only
    refine (tok_not h1 rfl).trans ((tok_yes h1 rfl).trans ((bind_ok hbt).trans ?_))
    rfl
  rw [bind_ok hp]
  exact ok_at (by simp [oneT]; omega)
theorem one_assign (hg : L.length < g) {e : Gr} (he : e.fits) {t : List Tk} {l : List T1} {i : Nat} (h : AtT L i (oneT 7 e.toks t)) (hs : StopE (tk L (i + (oneT 7 e.toks t).length)).1) :
    ∃ x, stmS g (bodyF g f) L i = .ok ([x], i + (oneT 7 e.toks t).length) ∧ Bare (oneS 7 e.tree l) x := by
  obtain ⟨h0, h1, h⟩ := h
  obtain ⟨h2, h3, h4, h5⟩ := atT_app h
  have hl : i + (oneT 7 e.toks t).length = i + 1 + 1 + e.toks.length + 1 + 1 + e.toks.length := by simp [oneT]; omega
  rw [hl] at hs ⊢
  obtain ⟨x, e1, b1⟩ := expr_at hg e he h2 (by rw [h3]; exact stopE_ket)
  obtain ⟨y, e2, b2⟩ := expr_at hg e he h5 hs
  obtain ⟨n, hn⟩ : ∃ n, g = n + 1 := ⟨g - 1, by omega⟩
  obtain ⟨v, hv⟩ : ∃ v, v = mk 1 (tk L i).2.1 (tk L i).1.text 0 [] := ⟨_, rfl⟩
  have hbv : Bare (nm 118) v := by rw [hv, show (tk L i).1.text = ⟨#[118]⟩ by rw [h0]; rfl]; exact bare_nm
  have hd : designF (exprF g) g L i = .ok (mk 3 (tk L (i + 1)).2.1 sNil 0 [v, x], i + 1 + 1 + e.toks.length + 1) := by
    have a1 : ∀ m x, dotsF m x L (i + 1) = .ok (x, i + 1) := fun m x => by
      cases m with
      | zero => rfl
      | succ m => exact (tok_not h1 rfl).trans ret_
    have a3 : ∀ m x, commasF (exprF g) m x L (i + 1 + 1 + e.toks.length) = .ok (x, i + 1 + 1 + e.toks.length) := fun m x => by
      cases m with
      | zero => rfl
      | succ m => exact (tok_not h3 rfl).trans ret_
    have a4 : ∀ m x, desF (exprF g) g m x L (i + 1 + 1 + e.toks.length + 1) = .ok (x, i + 1 + 1 + e.toks.length + 1) := fun m x => by
      cases m with
      | zero => rfl
      | succ m => exact (tok_not h4 rfl).trans ((tok_not h4 rfl).trans ((tok_not h4 rfl).trans ret_))
    refine (bind_ok ((bind_ok (name_yes h0)).trans (a1 _ _))).trans ?_
    rw [← hv, congrArg (fun k => desF (exprF g) g k v L (i + 1)) hn]
    exact (tok_not h1 rfl).trans ((tok_not h1 rfl).trans ((tok_yes h1 rfl).trans ((bind_ok e1).trans ((bind_ok (a3 _ _)).trans ((need_at h3 rfl).trans (a4 _ _))))))
  refine ⟨mk 60 (tk L (i + 1 + 1 + e.toks.length + 1)).2.1 sNil 0 [mk 3 (tk L (i + 1)).2.1 sNil 0 [v, x], y], ?_, bare_mk _ _ _ _ _ (bareL_2 (bare_mk _ _ _ _ _ (bareL_2 hbv b1)) b2)⟩
  rw [stm_name (by rw [h0]; rfl)]
  have hp : plainS g L i = .ok (mk 60 (tk L (i + 1 + 1 + e.toks.length + 1)).2.1 sNil 0 [mk 3 (tk L (i + 1)).2.1 sNil 0 [v, x], y], i + 1 + 1 + e.toks.length + 1 + 1 + e.toks.length) := by
    refine (bind_ok hd).trans ?_
    unfold posP
    dsimp only
    refine (tok_yes h4 rfl).trans ((bind_ok e2).trans ?_)
    rfl
  rw [bind_ok hp]
  rfl
theorem one_with (hg : L.length < g) {e : Gr} {t : List Tk} {l : List T1} (hb : InB g f L t l) {i : Nat} (h : AtT L i (oneT 6 e.toks t)) :
    ∃ x, stmS g (bodyF g f) L i = .ok ([x], i + (oneT 6 e.toks t).length) ∧ Bare (oneS 6 e.tree l) x := by
  obtain ⟨h0, h1, h2, h3, h4, h5, h⟩ := h
  obtain ⟨h6, h7, _⟩ := atT_app h
  obtain ⟨y, e2, b2⟩ := hb _ h6 (by rw [h7]; exact sS_end) (by rw [h7]; decide)
  have hlt : i + 1 < L.length := tk_lt h1 (by decide)
  obtain ⟨n, hn⟩ : ∃ n, g = n + 1 + 1 := ⟨g - 2, by omega⟩
  obtain ⟨v, hv⟩ : ∃ v, v = mk 1 (tk L (i + 1)).2.1 (tk L (i + 1)).1.text 0 [] := ⟨_, rfl⟩
  have hbv : Bare (nm 114) v := by rw [hv, show (tk L (i + 1)).1.text = ⟨#[114]⟩ by rw [h1]; rfl]; exact bare_nm
  obtain ⟨u, hu⟩ : ∃ u, u = mk 2 (tk L (i + 1 + 1)).2.1 (tk L (i + 1 + 1 + 1)).1.text 0 [v] := ⟨_, rfl⟩
  have hbu : Bare (mk 2 z2 ⟨#[97]⟩ 0 [nm 114]) u := by rw [hu, show (tk L (i + 1 + 1 + 1)).1.text = ⟨#[97]⟩ by rw [h3]; rfl]; exact bare_mk _ _ _ _ _ (bareL_1 hbv)
  have hd : designF (exprF g) g L (i + 1) = .ok (mk 4 (tk L (i + 1 + 1 + 1 + 1)).2.1 sNil 0 [u], i + 1 + 1 + 1 + 1 + 1) := by
    have a1 : ∀ m x, dotsF m x L (i + 1 + 1 + 1 + 1) = .ok (x, i + 1 + 1 + 1 + 1) := fun m x => by
      cases m with
      | zero => rfl
      | succ m => exact (tok_not h4 rfl).trans ret_
    have a4 : ∀ m x, desF (exprF g) g m x L (i + 1 + 1 + 1 + 1 + 1) = .ok (x, i + 1 + 1 + 1 + 1 + 1) := fun m x => by
      cases m with
      | zero => rfl
      | succ m => exact (tok_not h5 rfl).trans ((tok_not h5 rfl).trans ((tok_not h5 rfl).trans ret_))
    have a5 : dotsF g v L (i + 1 + 1) = .ok (u, i + 1 + 1 + 1 + 1) := by
      rw [congrArg (fun k => dotsF k v L (i + 1 + 1)) hn]
      exact (tok_yes h2 rfl).trans ((bind_ok (name_yes h3)).trans (by rw [← hu]; exact a1 _ _))
    refine (bind_ok ((bind_ok (name_yes h1)).trans (by rw [← hv]; exact a5))).trans ?_
    rw [congrArg (fun k => desF (exprF g) g k u L (i + 1 + 1 + 1 + 1)) hn]
    exact (tok_not h4 rfl).trans ((tok_yes h4 rfl).trans (a4 _ _))
  refine ⟨mk 69 (tk L i).2.1 sNil 0 [mk 4 (tk L (i + 1 + 1 + 1 + 1)).2.1 sNil 0 [u], y], ?_, bare_mk _ _ _ _ _ (bareL_2 (bare_mk _ _ _ _ _ (bareL_1 hbu)) b2)⟩
  rw [stm_w7 (by rw [h0]; rfl) (by rw [h0]; rfl)]
  unfold withS endS
  rw [bind_ok ((bind_ok hd).trans ((need_at h5 rfl).trans ((bind_ok e2).trans ((need_at h7 rfl).trans ret_))))]
  exact ok_at (by simp [oneT]; omega)
theorem one_if (hg : L.length < g) {e : Gr} (he : e.fits) {t : List Tk} {l : List T1} (hb : InB g f L t l) (h0b : InB g f L [] []) {i : Nat} (h : AtT L i (oneT 0 e.toks t)) :
    ∃ x, stmS g (bodyF g f) L i = .ok ([x], i + (oneT 0 e.toks t).length) ∧ Bare (oneS 0 e.tree l) x := by
  obtain ⟨h0, h⟩ := h
  obtain ⟨h1, h⟩ := atT_app h
  obtain ⟨h2, h⟩ := h
  obtain ⟨h3, h⟩ := atT_app h
  obtain ⟨h4, h5, h6, h7, h⟩ := h
  obtain ⟨h8, h9, _⟩ := atT_app h
  obtain ⟨x, e1, b1⟩ := expr_at hg e he h1 (by rw [h2]; exact eW_then)
  obtain ⟨y, e2, b2⟩ := hb _ h3 (by rw [h4]; exact sS_elsif) (by rw [h4]; decide)
  obtain ⟨z, e3, b3⟩ := expr_nm hg h5 (by rw [h6]; exact eW_then)
  obtain ⟨w, e4, b4⟩ := h0b _ trivial (by rw [List.length_nil, Nat.add_zero, h7]; exact sS_else) (by rw [List.length_nil, Nat.add_zero, h7]; decide)
  rw [List.length_nil, Nat.add_zero] at e4
  obtain ⟨v, e5, b5⟩ := hb _ h8 (by rw [h9]; exact sS_end) (by rw [h9]; decide)
  have hlt : i < L.length := tk_lt h0 (by decide)
  have hlt2 : i + 1 + e.toks.length < L.length := tk_lt h2 (by decide)
  obtain ⟨n, hn⟩ : ∃ n, g = n + 1 + 1 := ⟨g - 2, by omega⟩
  refine ⟨mk 62 (tk L i).2.1 sNil 0 [x, y, z, w, v], ?_, bare_mk _ _ _ _ _ (bareL_cons b1 (bareL_4 b2 b3 b4 b5))⟩
  rw [stm_w0 (by rw [h0]; rfl) (by rw [h0]; rfl)]
  have key : ifS g (bodyF g f) (tk L i).2.1 L (i + 1) = .ok (mk 62 (tk L i).2.1 sNil 0 [x, y, z, w, v], i + (oneT 0 e.toks t).length) := by
    unfold ifS
    refine (congrArg (fun k => bindP (ifsF g (bodyF g f) k []) (fun l => elseS (bodyF g f) 62 (tk L i).2.1 l) L (i + 1)) hn).trans ?_
    rw [ifs_step]
    refine ((bind_ok e1).trans ((need_at h2 rfl).trans ((bind_ok e2).trans ((tok_yes h4 rfl).trans ?_))))
    rw [ifs_step]
    refine ((bind_ok e3).trans ((need_at h6 rfl).trans ((bind_ok e4).trans ((tok_not h7 rfl).trans ?_))))
    unfold elseS endS
    refine ((tok_yes h7 rfl).trans ((bind_ok e5).trans ((need_at h9 rfl).trans ?_)))
    exact ok_at (by simp [oneT]; omega)
  rw [bind_ok key]
  rfl
theorem one_case (hg : L.length < g) {e : Gr} (he : e.fits) {t : List Tk} {l : List T1} (hb : InB g f L t l) (h0b : InB g f L [] []) {i : Nat} (h : AtT L i (oneT 5 e.toks t)) :
    ∃ x, stmS g (bodyF g f) L i = .ok ([x], i + (oneT 5 e.toks t).length) ∧ Bare (oneS 5 e.tree l) x := by
  obtain ⟨h0, h⟩ := h
  obtain ⟨h1, h⟩ := atT_app h
  obtain ⟨h2, h3, h4, h5, h6, h7, h8, h⟩ := h
  obtain ⟨h9, h⟩ := atT_app h
  obtain ⟨h10, h11, h12, h13, h⟩ := h
  obtain ⟨h14, h15, _⟩ := atT_app h
  obtain ⟨x, e1, b1⟩ := expr_at hg e he h1 (by rw [h2]; exact eW_of)
  obtain ⟨n1, f1, c1⟩ := expr_nu hg (n := 1) (by decide) h3 (by rw [h4]; exact stopE_com)
  obtain ⟨n2, f2, c2⟩ := expr_nu hg (n := 2) (by decide) h5 (by rw [h6]; exact stopE_ran)
  obtain ⟨n3, f3, c3⟩ := expr_nu hg (n := 3) (by decide) h7 (by rw [h8]; exact eS_col)
  obtain ⟨y, e2, b2⟩ := hb _ h9 (by rw [h10]; exact sS_bar) (by rw [h10]; decide)
  obtain ⟨n4, f4, c4⟩ := expr_nu hg (n := 4) (by decide) h11 (by rw [h12]; exact eS_col)
  obtain ⟨v, e5, b5⟩ := hb _ h14 (by rw [h15]; exact sS_end) (by rw [h15]; decide)
  have hlt2 : i + 1 + e.toks.length + 1 < L.length := tk_lt h3 (by decide)
  obtain ⟨n, hn⟩ : ∃ n, g = n + 1 + 1 := ⟨g - 2, by omega⟩
  generalize hJ : i + 1 + e.toks.length + 1 = J at *
  have q1 : elemF (exprF g) L J = .ok (n1, J + 1) := by
    show bindP (exprF g) _ L J = _
    refine (bind_ok f1).trans ((tok_not h4 rfl).trans ?_)
    rfl
  have q2 : elemF (exprF g) L (J + 1 + 1) = .ok (mk 9 (tk L (J + 1 + 1)).2.1 sNil 0 [n2, n3], J + 1 + 1 + 1 + 1 + 1) := by
    show bindP (exprF g) _ L (J + 1 + 1) = _
    refine (bind_ok f2).trans ((tok_yes h6 rfl).trans ((bind_ok f3).trans ?_))
    rfl
  have q3 : manyF (elemF (exprF g)) g L J = .ok ([n1, mk 9 (tk L (J + 1 + 1)).2.1 sNil 0 [n2, n3]], J + 1 + 1 + 1 + 1 + 1) := by
    refine (bind_ok q1).trans ?_
    rw [congrArg (fun k => manyRF (elemF (exprF g)) k [n1] L (J + 1)) hn]
    exact (tok_yes h4 rfl).trans ((bind_ok q2).trans ((tok_not h8 rfl).trans ret_))
  have q4 : labelsF g L J = .ok (mk 29 (tk L J).2.1 sNil 0 [n1, mk 9 (tk L (J + 1 + 1)).2.1 sNil 0 [n2, n3]], J + 1 + 1 + 1 + 1 + 1) := by
    show bindP (manyF (elemF (exprF g)) g) _ L J = _
    refine (bind_ok q3).trans ?_
    rfl
  generalize hM : J + 1 + 1 + 1 + 1 + 1 + 1 + t.length + 1 = M at *
  obtain ⟨w, e4, b4⟩ := h0b (M + 1 + 1) trivial (by rw [List.length_nil, Nat.add_zero, h13]; exact sS_else) (by rw [List.length_nil, Nat.add_zero, h13]; decide)
  rw [List.length_nil, Nat.add_zero] at e4
  have r1 : elemF (exprF g) L M = .ok (n4, M + 1) := by
    show bindP (exprF g) _ L M = _
    refine (bind_ok f4).trans ((tok_not h12 rfl).trans ?_)
    rfl
  have r3 : manyF (elemF (exprF g)) g L M = .ok ([n4], M + 1) := by
    refine (bind_ok r1).trans ?_
    rw [congrArg (fun k => manyRF (elemF (exprF g)) k [n4] L (M + 1)) hn]
    exact (tok_not h12 rfl).trans ret_
  have r4 : labelsF g L M = .ok (mk 29 (tk L M).2.1 sNil 0 [n4], M + 1) := by
    show bindP (manyF (elemF (exprF g)) g) _ L M = _
    refine (bind_ok r3).trans ?_
    rfl
  have o1 : armOut (tk L J) = false := (first_not (e := .num 1) (i := J) ⟨h3, trivial⟩).2
  have o2 : armOut (tk L M) = false := (first_not (e := .num 4) (i := M) ⟨h11, trivial⟩).2
  refine ⟨mk 63 (tk L i).2.1 sNil 0 [x, mk 28 (tk L J).2.1 sNil 0 [mk 29 (tk L J).2.1 sNil 0 [n1, mk 9 (tk L (J + 1 + 1)).2.1 sNil 0 [n2, n3]], y], mk 28 (tk L M).2.1 sNil 0 [mk 29 (tk L M).2.1 sNil 0 [n4], w], mk 30 (tk L (M + 1 + 1)).2.1 sNil 0 [v]], ?_,
    bare_mk _ _ _ _ _ (bareL_4 b1 (bare_mk _ _ _ _ _ (bareL_2 (bare_mk _ _ _ _ _ (bareL_2 c1 (bare_mk _ _ _ _ _ (bareL_2 c2 c3)))) b2)) (bare_mk _ _ _ _ _ (bareL_2 (bare_mk _ _ _ _ _ (bareL_1 c4)) b4)) (bare_mk _ _ _ _ _ (bareL_1 b5)))⟩
  rw [stm_w1 (by rw [h0]; rfl) (by rw [h0]; rfl)]
  have key : caseS g (bodyF g f) (tk L i).2.1 L (i + 1) = .ok (mk 63 (tk L i).2.1 sNil 0 [x, mk 28 (tk L J).2.1 sNil 0 [mk 29 (tk L J).2.1 sNil 0 [n1, mk 9 (tk L (J + 1 + 1)).2.1 sNil 0 [n2, n3]], y], mk 28 (tk L M).2.1 sNil 0 [mk 29 (tk L M).2.1 sNil 0 [n4], w], mk 30 (tk L (M + 1 + 1)).2.1 sNil 0 [v]], i + (oneT 5 e.toks t).length) := by
    unfold caseS
    refine (bind_ok e1).trans ((need_at h2 rfl).trans ?_)
    rw [hJ]
    refine (congrArg (fun k => bindP (armsF g (bodyF g f) k [x]) (fun l => tokP (tT sElse) (fun t => bindP (bodyF g f) fun b => endS 63 (tk L i).2.1 sNil (l ++ [mk 30 t.2.1 sNil 0 [b]])) (endS 63 (tk L i).2.1 sNil l)) L J) hn).trans ?_
    rw [arms_step, if_neg (by rw [o1]; simp)]
    refine (bind_ok q4).trans ((need_at h8 rfl).trans ((bind_ok e2).trans ((tok_yes h10 rfl).trans ?_)))
    rw [hM, arms_step, if_neg (by rw [o2]; simp)]
    refine (bind_ok r4).trans ((need_at h12 rfl).trans ((bind_ok e4).trans ((tok_not h13 rfl).trans ?_)))
    unfold endS
    refine ((tok_yes h13 rfl).trans ((bind_ok e5).trans ((need_at h15 rfl).trans ?_)))
    exact ok_at (by simp [oneT]; omega)
  rw [bind_ok key]
  rfl
end
end Go.Proofs.Ytecmjhohniipoaa.St

end

section
namespace Go.Proofs.Ytecmjhohniipoaa.St
open Go.RowKit
open Tr (Nd Fo)
open Lx (Tk noTk)
open Ex
theorem Bx.nil_of {r : Bx} (h : r.isNil = true) : r = .nil := by cases r <;> first | rfl | cases h
section
variable {g : Nat} {L : List PT}
theorem step_items {bd : Par T1} {n i j : Nat} {acc s : List T1} (h : stmS g bd L i = .ok (s, j)) : bodyR g bd (n + 1) acc L i = tokP (tT sSem) (fun _ => bodyR g bd n (acc ++ s)) (retP (acc ++ s)) L j := bind_ok h
def Items (g f : Nat) (L : List PT) (t : List Tk) (l : List T1) : Prop := ∀ (n i : Nat) (acc : List T1), L.length < i + n → 0 < n → AtT L i t → StopS (tk L (i + t.length)).1 →
  ∃ ts m, BareL l ts ∧ L.length < i + t.length + (m + 1) ∧ bodyR g (bodyF g f) n acc L i = tokP (tT sSem) (fun _ => bodyR g (bodyF g f) m (acc ++ ts)) (retP (acc ++ ts)) L (i + t.length)
theorem inB_of (hg : L.length < g) {f : Nat} {t : List Tk} {l : List T1} (h : Items g f L t l) : InB g (f + 1) L t l := by
  intro i ha hs hn
  obtain ⟨ts, m, h1, h2, h3⟩ := h g i [] (by omega) (by omega) ha hs
  refine ⟨mk 46 (tk L i).2.1 sNil 0 ts, ?_, bare_mk _ _ _ _ _ h1⟩
  show bindP (bodyR g (bodyF g f) g []) (fun l => retP (mk 46 (tk L i).2.1 sNil 0 l)) L i = _
  have h4 : bodyR g (bodyF g f) g [] L i = .ok (ts, i + t.length) := by
    rw [h3, tok_not rfl (eq_false_of_ne_true hn)]
    rfl
  rw [bind_ok h4]
  rfl
theorem loopB_of (hg : L.length < g) {f : Nat} {t : List Tk} {l : List T1} (h : Items g f L t l) : InB g (f + 1) L (t ++ [sy sSem, wd sExit]) (l ++ [mk 67 z2 sNil 0 []]) := by
  intro i ha hs hn
  obtain ⟨ha1, hse, hex, _⟩ := atT_app ha
  have hl : i + (t ++ [sy sSem, wd sExit]).length = i + t.length + 1 + 1 := by simp; omega
  rw [hl] at hs hn ⊢
  obtain ⟨ts, m, h1, h2, h3⟩ := h g i [] (by omega) (by omega) ha1 (by rw [hse]; exact sS_sem)
  have hlt : i + t.length < L.length := tk_lt hse (by decide)
  obtain ⟨m, rfl⟩ : ∃ k, m = k + 1 := ⟨m - 1, by have := tk_lt hex (by decide); omega⟩
  obtain ⟨x, e1, b1⟩ := one_exit (g := g) (f := f) (t := []) (l := []) (e := .z) (i := i + t.length + 1) ⟨hex, trivial⟩
  refine ⟨mk 46 (tk L i).2.1 sNil 0 (ts ++ [x]), ?_, bare_mk _ _ _ _ _ (bareL_snoc b1 h1)⟩
  show bindP (bodyR g (bodyF g f) g []) (fun l => retP (mk 46 (tk L i).2.1 sNil 0 l)) L i = _
  have h4 : bodyR g (bodyF g f) g [] L i = .ok (ts ++ [x], i + t.length + 1 + 1) := by
    rw [h3, tok_yes hse rfl, step_items e1]
    refine (tok_not rfl (eq_false_of_ne_true hn)).trans ?_
    rfl
  rw [bind_ok h4]
  rfl
theorem items_nil (f : Nat) : Items g f L [] [] := by
  intro n i acc hn h0 _ hs
  obtain ⟨n, rfl⟩ : ∃ k, n = k + 1 := ⟨n - 1, by omega⟩
  refine ⟨[], n, bareL_nil, by simp; omega, ?_⟩
  rw [List.length_nil, Nat.add_zero] at hs ⊢
  exact step_items (stm_stop hs)
theorem items_cons {f : Nat} {t t' : List Tk} {l l' : List T1} (h : Items g f L t' l')
    (h1 : ∀ i, AtT L i t → StopS (tk L (i + t.length)).1 → ∃ s, stmS g (bodyF g f) L i = .ok (s, i + t.length) ∧ BareL l s) : Items g f L (t ++ sy sSem :: t') (l ++ l') := by
  intro n i acc hn h0 ha hs
  obtain ⟨ha1, hse, ha2⟩ := atT_app ha
  have hl : i + (t ++ sy sSem :: t').length = i + t.length + 1 + t'.length := by simp; omega
  rw [hl] at hs ⊢
  obtain ⟨s, e1, b1⟩ := h1 i ha1 (by rw [hse]; exact sS_sem)
  obtain ⟨n, rfl⟩ : ∃ k, n = k + 1 := ⟨n - 1, by omega⟩
  have hlt : i + t.length < L.length := tk_lt hse (by decide)
  obtain ⟨ts, m, h2, h3, h4⟩ := h n (i + t.length + 1) (acc ++ s) (by omega) (by omega) ha2 hs
  refine ⟨s ++ ts, m, bareL_app h2 b1, h3, ?_⟩
  rw [step_items e1, tok_yes hse rfl, h4, List.append_assoc]
theorem items_one {f : Nat} {t : List Tk} {l : List T1}
    (h1 : ∀ i, AtT L i t → StopS (tk L (i + t.length)).1 → ∃ s, stmS g (bodyF g f) L i = .ok (s, i + t.length) ∧ BareL l s) : Items g f L t l := by
  intro n i acc hn h0 ha hs
  obtain ⟨s, e1, b1⟩ := h1 i ha hs
  obtain ⟨n, rfl⟩ : ∃ k, n = k + 1 := ⟨n - 1, by omega⟩
  exact ⟨s, n, b1, by omega, step_items e1⟩
theorem one_any (hg : L.length < g) {f : Nat} (k : Nat) {e : Gr} (he : e.fits) {t : List Tk} {l : List T1} (hk : k ≤ 6 → ∃ f', f = f' + 1 ∧ Items g f' L t l) :
    ∀ i, AtT L i (oneT k e.toks t) → StopS (tk L (i + (oneT k e.toks t).length)).1 → ∃ s, stmS g (bodyF g f) L i = .ok (s, i + (oneT k e.toks t).length) ∧ BareL [oneS k e.tree l] s := by
  intro i ha hs
  have lift : (∃ x, stmS g (bodyF g f) L i = .ok ([x], i + (oneT k e.toks t).length) ∧ Bare (oneS k e.tree l) x) → ∃ s, stmS g (bodyF g f) L i = .ok (s, i + (oneT k e.toks t).length) ∧ BareL [oneS k e.tree l] s := by
    rintro ⟨x, h1, h2⟩
    exact ⟨[x], h1, bareL_1 h2⟩
  apply lift
  have hb : k ≤ 6 → InB g f L t l ∧ InB g f L [] [] ∧ InB g f L (t ++ [sy sSem, wd sExit]) (l ++ [mk 67 z2 sNil 0 []]) := fun h => by
    obtain ⟨f', rfl, hi⟩ := hk h
    exact ⟨inB_of hg hi, inB_of hg (items_nil f'), loopB_of hg hi⟩
  match k, hb, ha, hs with
  | 0, hb, ha, hs => exact one_if hg he (hb (by decide)).1 (hb (by decide)).2.1 ha
  | 1, hb, ha, hs => exact one_while hg he (hb (by decide)).1 ha
  | 2, hb, ha, hs => exact one_repeat hg he (hb (by decide)).1 ha hs.toStopE
  | 3, hb, ha, hs => exact one_loop (hb (by decide)).2.2 ha
  | 4, hb, ha, hs => exact one_for hg he (hb (by decide)).1 ha
  | 5, hb, ha, hs => exact one_case hg he (hb (by decide)).1 (hb (by decide)).2.1 ha
  | 6, hb, ha, hs => exact one_with hg (hb (by decide)).1 ha
  | 7, hb, ha, hs => exact one_assign hg he ha hs.toStopE
  | 8, hb, ha, hs => exact one_call hg he ha
  | 9, hb, ha, hs => exact one_exit ha
  | k + 10, hb, ha, hs => exact one_return (t := t) (l := l) hg he ha hs.toStopE
theorem items_at (hg : L.length < g) : ∀ (x : Bx) (f : Nat), x.deep ≤ f → x.fits → Items g f L x.toks x.trees
  | .nil, f, _, _ => items_nil f
  | .emp r, f, hd, hf => by
    have ih := items_at hg r f hd hf
    unfold Bx.toks
    split
    · rename_i h
      rw [Bx.nil_of h]
      exact items_nil f
    · exact items_cons (t := []) (l := []) ih fun i _ hs => ⟨[], stm_stop hs, bareL_nil⟩
  | .st k e b r, f, hd, hf => by
    have hd' : (k ≤ 6 → b.deep + 1 ≤ f) ∧ r.deep ≤ f := by
      unfold Bx.deep at hd
      split at hd
      · exact ⟨fun _ => by omega, by omega⟩
      · exact ⟨fun h => by omega, hd⟩
    have ihr := items_at hg r f hd'.2 hf.2.2
    have ihb : ∀ f', b.deep ≤ f' → Items g f' L b.toks b.trees := fun f' h => items_at hg b f' h hf.2.1
    have h1 := one_any (L := L) hg (f := f) k hf.1 (t := b.toks) (l := b.trees) (fun h6 => ⟨f - 1, by have := hd'.1 h6; omega, ihb _ (by have := hd'.1 h6; omega)⟩)
    unfold Bx.toks Bx.trees
    split
    · rename_i h
      rw [Bx.nil_of h, List.append_nil]
      exact items_one h1
    · exact items_cons (l := [oneS k e.tree b.trees]) ihr h1
theorem body_at (hg : L.length < g) {x : Bx} {f : Nat} (hd : x.deep < f) (hf : x.fits) {i : Nat} (ha : AtT L i x.toks) (hs : StopS (tk L (i + x.toks.length)).1) (hn : tkT sSem (tk L (i + x.toks.length)).1 = false) :
    ∃ T, bodyF g f L i = .ok (T, i + x.toks.length) ∧ Bare (bodyT x.trees) T := by
  obtain ⟨f, rfl⟩ : ∃ k, f = k + 1 := ⟨f - 1, by omega⟩
  exact inB_of hg (items_at hg x f (by omega) hf) i ha hs (by rw [hn]; simp)
end
theorem same_symm : ∀ a b : Fo, a.same b = true → b.same a = true
  | .no, .no, _ => rfl
  | .no, .node .., h => by simp [Fo.same] at h
  | .node .., .no, h => by simp [Fo.same] at h
  | .node d k r, .node d' k' r', h => by
    simp only [Fo.same, Bool.and_eq_true, decide_eq_true_eq] at h ⊢
    exact ⟨⟨⟨⟨h.1.1.1.1.symm, h.1.1.1.2.symm⟩, h.1.1.2.symm⟩, same_symm _ _ h.1.2⟩, same_symm _ _ h.2⟩
theorem same_trans : ∀ a b c : Fo, a.same b = true → b.same c = true → a.same c = true
  | .no, .no, _, _, h => h
  | .no, .node .., _, h, _ => by simp [Fo.same] at h
  | .node .., .no, _, h, _ => by simp [Fo.same] at h
  | .node .., .node .., .no, _, h => by simp [Fo.same] at h
  | .node d k r, .node d' k' r', .node d2 k2 r2, h, h' => by
    simp only [Fo.same, Bool.and_eq_true, decide_eq_true_eq] at h h' ⊢
    exact ⟨⟨⟨⟨h.1.1.1.1.trans h'.1.1.1.1, h.1.1.1.2.trans h'.1.1.1.2⟩, h.1.1.2.trans h'.1.1.2⟩, same_trans _ _ _ h.1.2 h'.1.2⟩, same_trans _ _ _ h.2 h'.2⟩
theorem bare_both {t x y : T1} (h : Bare t x) (h' : Bare t y) : Bare x y := same_trans _ _ _ (same_symm _ _ h) h'
end Go.Proofs.Ytecmjhohniipoaa.St

end

section
namespace Go.Proofs.Ytecmjhohniipoaa.Lx
open Go.RowKit
open Pl Fl
theorem runN_appS (p : UInt8 → Bool) (hp : p 59 = false) (r : List UInt8) : ∀ s : List UInt8, runN p (s ++ 59 :: r) = runN p s
  | [] => by rw [List.nil_append, runN_no hp, runN_nil]
  | c :: s => by
    rw [List.cons_append]
    cases h : p c
    · rw [runN_no h, runN_no h]
    · rw [runN_yes h, runN_yes h, runN_appS p hp r s]
theorem take2_appS {s r : List UInt8} (hs : s ≠ []) (x : List UInt8) (hx : x.length = 2) (hb : x[1]? ≠ some 59) : ((s ++ 59 :: r).take 2 = x) = (s.take 2 = x) := by
  rcases s with _ | ⟨a, _ | ⟨b, t⟩⟩
  · exact absurd rfl hs
  · apply propext
    constructor
    · intro h
      subst h
      simp at hb
    · intro h
      subst h
      simp at hx
  · rfl
theorem oneN_appS {s : List UInt8} (hs : s ≠ []) {t : Tk} {n : Nat} (h : oneN s = .ok (t, n)) (r : List UInt8) : oneN (s ++ 59 :: r) = .ok (t, n) := by
  have hbd := oneN_bd s hs t n h
  have htk : ∀ m, m ≤ s.length → (s ++ 59 :: r).take m = s.take m := fun m hm => List.take_append_of_le_length hm
  unfold oneN at h ⊢
  rw [head_app hs]
  dsimp only at h ⊢
  by_cases h1 : isL (s.head?.getD 0) = true
  · rw [if_pos h1] at h ⊢
    rw [runN_appS isP rfl, htk _ (runN_le isP s)]
    exact h
  rw [if_neg h1] at h ⊢
  by_cases h2 : isD (s.head?.getD 0) = true
  · rw [if_pos h2] at h ⊢
    rw [runN_appS isX rfl]
    have hle := runN_le isX s
    have h72 : ((s ++ 59 :: r)[runN isX s]? = some 72) = (s[runN isX s]? = some 72) := by
      rcases Nat.lt_or_ge (runN isX s) s.length with hlt | hge
      · rw [List.getElem?_append_left hlt]
      · have he : runN isX s = s.length := by omega
        rw [he, List.getElem?_append_right (Nat.le_refl _), Nat.sub_self, List.getElem?_eq_none (Nat.le_refl _)]
        simp
    have hn : (if (s ++ 59 :: r)[runN isX s]? = some 72 then runN isX s + 1 else runN isX s) = (if s[runN isX s]? = some 72 then runN isX s + 1 else runN isX s) := by
      by_cases h3 : s[runN isX s]? = some 72
      · rw [if_pos h3, if_pos (by rw [h72]; exact h3)]
      · rw [if_neg h3, if_neg (by rw [h72]; exact h3)]
    rw [hn, htk]
    · exact h
    · by_cases h3 : s[runN isX s]? = some 72
      · rw [if_pos h3]
        obtain ⟨h5, _⟩ := List.getElem?_eq_some_iff.1 h3
        omega
      · rw [if_neg h3]; exact hle
  rw [if_neg h2] at h ⊢
  by_cases h3 : s.head?.getD 0 = 34 ∨ s.head?.getD 0 = 39
  · rw [if_pos h3] at h ⊢
    have hta : (s ++ 59 :: r).tail = s.tail ++ 59 :: r := by cases s <;> simp_all
    rw [hta]
    have htl : s.tail.length = s.length - 1 := List.length_tail
    split at h
    · cases h
    · rename_i h4
      have h5 : 1 + runN (fun x => x != s.head?.getD 0 && x != 10) s.tail < s.length := by
        rcases Nat.lt_or_ge (1 + runN (fun x => x != s.head?.getD 0 && x != 10) s.tail) s.length with hlt | hge
        · exact hlt
        · exact absurd (.inl (List.getElem?_eq_none hge)) h4
      rw [runN_app' _ _ _ (by omega)]
      rw [List.getElem?_append_left h5, if_neg h4, htk _ (by omega)]
      exact h
  rw [if_neg h3] at h ⊢
  have hsym : symN (s ++ 59 :: r) = symN s := by
    unfold symN
    rw [head_app hs]
    have : (twos.any fun x => x.data.toList == (s ++ 59 :: r).take 2) = (twos.any fun x => x.data.toList == s.take 2) := by
      rw [Bool.eq_iff_iff]
      simp only [List.any_eq_true, beq_iff_eq]
      have hx : ∀ x ∈ twos, x.data.toList.length = 2 ∧ x.data.toList[1]? ≠ some 59 := by decide
      constructor
      · rintro ⟨x, hm, e⟩
        exact ⟨x, hm, ((take2_appS hs _ (hx x hm).1 (hx x hm).2) ▸ e.symm : s.take 2 = x.data.toList).symm⟩
      · rintro ⟨x, hm, e⟩
        exact ⟨x, hm, ((take2_appS hs _ (hx x hm).1 (hx x hm).2).symm ▸ e.symm : (s ++ 59 :: r).take 2 = x.data.toList).symm⟩
    rw [this]
  rw [hsym]
  split at h
  · cases h
  · rename_i h4
    rw [if_neg h4, htk _ (symN_le s hs)]
    exact h
theorem item_appS {s : List UInt8} (hs : s ≠ []) (hb : ∀ k, item s ≠ .bad k) (r : List UInt8) : item (s ++ 59 :: r) = item s := by
  unfold item at hb ⊢
  rw [head_app hs]
  have e2 := take2_appS (r := r) hs [40, 42] rfl (by simp)
  by_cases h1 : isB (s.head?.getD 0) = true
  · rw [if_pos h1, if_pos h1]
  rw [if_neg h1] at hb ⊢
  rw [if_neg h1]
  by_cases h2 : s.take 2 = [40, 42]
  · rw [if_pos h2] at hb
    rw [if_pos h2, if_pos (e2.symm ▸ h2)]
    have hc : cmt 0 0 s ≠ 0 := fun e => by rw [if_pos e] at hb; exact hb _ rfl
    rw [cmt_app _ _ _ _ _ (Nat.le_refl _) hc]
  · rw [if_neg h2] at hb
    rw [if_neg h2, if_neg (fun e => h2 (e2 ▸ e))]
    cases h3 : oneN s with
    | error k => rw [h3] at hb; exact absurd rfl (hb k)
    | ok x =>
      obtain ⟨t, n⟩ := x
      rw [oneN_appS hs h3]
theorem lex_appS (r : List UInt8) : ∀ (m : Nat) (s : List UInt8) (l : List Tk), s.length ≤ m → lex s = some l → lex (s ++ 59 :: r) = (lex (59 :: r)).map (l ++ ·) := by
  intro m
  induction m with
  | zero =>
    intro s l hm h
    have : s = [] := List.length_eq_zero_iff.1 (by omega)
    subst this
    cases h
    rw [List.nil_append]
    cases lex (59 :: r) <;> rfl
  | succ m ih =>
    intro s l hm h
    by_cases hs : s = []
    · subst hs
      cases h
      rw [List.nil_append]
      cases lex (59 :: r) <;> rfl
    · obtain ⟨h1, h2⟩ := item_bd s hs
      have hne : s ++ 59 :: r ≠ [] := by simp
      have hb : ∀ k, item s ≠ .bad k := fun k e => by rw [lex_step hs, e] at h; cases h
      have hi := item_appS hs hb r
      cases e : item s with
      | bad k => exact absurd e (hb k)
      | blank n =>
        have := h1 n e
        rw [lex_blank hs e] at h
        rw [lex_blank hne (hi.trans e), List.drop_append_of_le_length this.2]
        exact ih _ l (by rw [List.length_drop]; omega) h
      | tok t n =>
        have := h2 t n e
        rw [lex_tok hs e] at h
        rw [lex_tok hne (hi.trans e), List.drop_append_of_le_length this.2]
        cases e2 : lex (s.drop n) with
        | none => rw [e2] at h; cases h
        | some l2 =>
          rw [e2] at h
          cases h
          rw [ih _ l2 (by rw [List.length_drop]; omega) e2]
          cases lex (59 :: r) <;> rfl
end Go.Proofs.Ytecmjhohniipoaa.Lx

end

section
namespace Go.Proofs.Ytecmjhohniipoaa.St
open Go.RowKit
open Tr (Nd Fo)
open Lx (Tk noTk lex lex_app lex_nil lex_appS lex_sp)
open Ex
def oneX (k : Nat) (e t : List UInt8) : List UInt8 := match k with
  | 0 => [73, 70] ++ 32 :: (e ++ 32 :: ([84, 72, 69, 78] ++ 32 :: (t ++ 32 :: ([69, 76, 83, 73, 70] ++ 32 :: ([97] ++ 32 :: ([84, 72, 69, 78] ++ 32 :: ([69, 76, 83, 69] ++ 32 :: (t ++ 32 :: ([69, 78, 68])))))))))
  | 1 => [87, 72, 73, 76, 69] ++ 32 :: (e ++ 32 :: ([68, 79] ++ 32 :: (t ++ 32 :: ([69, 78, 68]))))
  | 2 => [82, 69, 80, 69, 65, 84] ++ 32 :: (t ++ 32 :: ([85, 78, 84, 73, 76] ++ 32 :: (e)))
  | 3 => [76, 79, 79, 80] ++ 32 :: (t ++ 59 :: 32 :: ([69, 88, 73, 84] ++ 32 :: ([69, 78, 68])))
  | 4 => [70, 79, 82] ++ 32 :: ([105] ++ 32 :: ([58, 61] ++ 32 :: (e ++ 32 :: ([84, 79] ++ 32 :: (e ++ 32 :: ([66, 89] ++ 32 :: ([50] ++ 32 :: ([68, 79] ++ 32 :: (t ++ 32 :: ([69, 78, 68]))))))))))
  | 5 => [67, 65, 83, 69] ++ 32 :: (e ++ 32 :: ([79, 70] ++ 32 :: ([49, 44] ++ 32 :: ([50] ++ 32 :: ([46, 46] ++ 32 :: ([51, 58] ++ 32 :: (t ++ 32 :: ([124] ++ 32 :: ([52, 58] ++ 32 :: ([69, 76, 83, 69] ++ 32 :: (t ++ 32 :: ([69, 78, 68]))))))))))))
  | 6 => [87, 73, 84, 72] ++ 32 :: ([114, 46, 97, 94] ++ 32 :: ([68, 79] ++ 32 :: (t ++ 32 :: ([69, 78, 68]))))
  | 7 => 118 :: 91 :: (e ++ 93 :: 32 :: ([58, 61] ++ 32 :: e))
  | 8 => 102 :: 40 :: (e ++ [41])
  | 9 => [69, 88, 73, 84]
  | _ => [82, 69, 84, 85, 82, 78] ++ 32 :: e
def Bx.text : Bx → List UInt8
  | .nil => []
  | .emp r => if r.isNil = true then [] else 59 :: 32 :: r.text
  | .st k e b r => oneX k e.text b.text ++ (if r.isNil = true then [] else 59 :: 32 :: r.text)
theorem lx0 : lex [73, 70] = some [wd sIf] := by kernel_rfl
theorem lx1 : lex [84, 72, 69, 78] = some [wd sThen] := by kernel_rfl
theorem lx2 : lex [69, 76, 83, 73, 70] = some [wd sElsif] := by kernel_rfl
theorem lx3 : lex [97] = some [na 97] := by kernel_rfl
theorem lx4 : lex [69, 76, 83, 69] = some [wd sElse] := by kernel_rfl
theorem lx5 : lex [69, 78, 68] = some [wd sEnd] := by kernel_rfl
theorem lx6 : lex [87, 72, 73, 76, 69] = some [wd sWhile] := by kernel_rfl
theorem lx7 : lex [68, 79] = some [wd sDo] := by kernel_rfl
theorem lx8 : lex [82, 69, 80, 69, 65, 84] = some [wd sRepeat] := by kernel_rfl
theorem lx9 : lex [85, 78, 84, 73, 76] = some [wd sUntil] := by kernel_rfl
theorem lx10 : lex [70, 79, 82] = some [wd sFor] := by kernel_rfl
theorem lx11 : lex [105] = some [na 105] := by kernel_rfl
theorem lx12 : lex [58, 61] = some [sy sAsg] := by kernel_rfl
theorem lx13 : lex [84, 79] = some [wd sTo] := by kernel_rfl
theorem lx14 : lex [66, 89] = some [wd sBy] := by kernel_rfl
theorem lx15 : lex [50] = some [nu 2] := by kernel_rfl
theorem lx16 : lex [67, 65, 83, 69] = some [wd sCase] := by kernel_rfl
theorem lx17 : lex [79, 70] = some [wd sOf] := by kernel_rfl
theorem lx18 : lex [49, 44] = some [nu 1, sy sCom] := by kernel_rfl
theorem lx19 : lex [46, 46] = some [sy sRan] := by kernel_rfl
theorem lx20 : lex [51, 58] = some [nu 3, sy sCol] := by kernel_rfl
theorem lx21 : lex [124] = some [sy sBar] := by kernel_rfl
theorem lx22 : lex [52, 58] = some [nu 4, sy sCol] := by kernel_rfl
theorem lx23 : lex [87, 73, 84, 72] = some [wd sWith] := by kernel_rfl
theorem lx24 : lex [114, 46, 97, 94] = some [na 114, sy sDot, na 97, sy sHat] := by kernel_rfl
theorem lx25 : lex [76, 79, 79, 80] = some [wd sLoop] := by kernel_rfl
theorem lx26 : lex [69, 88, 73, 84] = some [wd sExit] := by kernel_rfl
theorem lx27 : lex [82, 69, 84, 85, 82, 78] = some [wd sReturn] := by kernel_rfl
theorem lex_sem (r : List UInt8) : lex (59 :: r) = (lex r).map (sy sSem :: ·) := lex_sym1 59 r (by decide) (by decide) (by decide) (by decide) (by decide) rfl (by decide) (by decide)
theorem la {s r : List UInt8} {l : List Tk} (h : lex s = some l) : lex (s ++ 32 :: r) = (lex r).map (l ++ ·) := lex_app r _ s l (Nat.le_refl _) h
theorem ls {s r : List UInt8} {l : List Tk} (h : lex s = some l) : lex (s ++ 59 :: r) = (lex (59 :: r)).map (l ++ ·) := lex_appS r _ s l (Nat.le_refl _) h
theorem lex_joined {s r : List UInt8} {l m : List Tk} (h : lex s = some l) (h2 : lex r = some m) : lex (s ++ 59 :: 32 :: r) = some (l ++ sy sSem :: m) := by
  rw [ls h, lex_sem, lex_sp, h2]; rfl
section
variable {e t : List UInt8} {el tl : List Tk} (he : lex e = some el) (ht : lex t = some tl)
include he ht
theorem lexX0 : lex (oneX 0 e t) = some (oneT 0 el tl) := by
  show lex ([73, 70] ++ 32 :: (e ++ 32 :: ([84, 72, 69, 78] ++ 32 :: (t ++ 32 :: ([69, 76, 83, 73, 70] ++ 32 :: ([97] ++ 32 :: ([84, 72, 69, 78] ++ 32 :: ([69, 76, 83, 69] ++ 32 :: (t ++ 32 :: ([69, 78, 68])))))))))) = _
  rw [la lx0, la he, la lx1, la ht, la lx2, la lx3, la lx1, la lx4, la ht, lx5]
  simp [oneT]
theorem lexX1 : lex (oneX 1 e t) = some (oneT 1 el tl) := by
  show lex ([87, 72, 73, 76, 69] ++ 32 :: (e ++ 32 :: ([68, 79] ++ 32 :: (t ++ 32 :: ([69, 78, 68]))))) = _
  rw [la lx6, la he, la lx7, la ht, lx5]
  simp [oneT]
theorem lexX2 : lex (oneX 2 e t) = some (oneT 2 el tl) := by
  show lex ([82, 69, 80, 69, 65, 84] ++ 32 :: (t ++ 32 :: ([85, 78, 84, 73, 76] ++ 32 :: (e)))) = _
  rw [la lx8, la ht, la lx9, he]
  simp [oneT]
theorem lexX4 : lex (oneX 4 e t) = some (oneT 4 el tl) := by
  show lex ([70, 79, 82] ++ 32 :: ([105] ++ 32 :: ([58, 61] ++ 32 :: (e ++ 32 :: ([84, 79] ++ 32 :: (e ++ 32 :: ([66, 89] ++ 32 :: ([50] ++ 32 :: ([68, 79] ++ 32 :: (t ++ 32 :: ([69, 78, 68]))))))))))) = _
  rw [la lx10, la lx11, la lx12, la he, la lx13, la he, la lx14, la lx15, la lx7, la ht, lx5]
  simp [oneT]
theorem lexX5 : lex (oneX 5 e t) = some (oneT 5 el tl) := by
  show lex ([67, 65, 83, 69] ++ 32 :: (e ++ 32 :: ([79, 70] ++ 32 :: ([49, 44] ++ 32 :: ([50] ++ 32 :: ([46, 46] ++ 32 :: ([51, 58] ++ 32 :: (t ++ 32 :: ([124] ++ 32 :: ([52, 58] ++ 32 :: ([69, 76, 83, 69] ++ 32 :: (t ++ 32 :: ([69, 78, 68]))))))))))))) = _
  rw [la lx16, la he, la lx17, la lx18, la lx15, la lx19, la lx20, la ht, la lx21, la lx22, la lx4, la ht, lx5]
  simp [oneT]
theorem lexX6 : lex (oneX 6 e t) = some (oneT 6 el tl) := by
  show lex ([87, 73, 84, 72] ++ 32 :: ([114, 46, 97, 94] ++ 32 :: ([68, 79] ++ 32 :: (t ++ 32 :: ([69, 78, 68]))))) = _
  rw [la lx23, la lx24, la lx7, la ht, lx5]
  simp [oneT]
theorem lexX3 : lex (oneX 3 e t) = some (oneT 3 el tl) := by
  show lex ([76, 79, 79, 80] ++ 32 :: (t ++ 59 :: 32 :: ([69, 88, 73, 84] ++ 32 :: ([69, 78, 68])))) = _
  rw [la lx25, ls ht, lex_sem, lex_sp, la lx26, lx5]
  simp [oneT]
theorem lexX10 : lex ([82, 69, 84, 85, 82, 78] ++ 32 :: e) = some (wd sReturn :: el) := by
  rw [la lx27, he]
  rfl
end
theorem lexX7 (e : Gr) (he : e.fits) (t : List UInt8) (tl : List Tk) : lex (oneX 7 e.text t) = some (oneT 7 e.toks tl) := by
  show lex (118 :: 91 :: (e.text ++ 93 :: 32 :: ([58, 61] ++ 32 :: e.text))) = _
  rw [lex_name 118 _ (by decide) (by decide) (by decide) (brk_of (by decide)), lex_bra, lex_text e _ he (brk_of (by decide)), lex_ket, lex_sp, la lx12, lex_texts e he]
  simp [oneT]
theorem lexX8 (e : Gr) (he : e.fits) (t : List UInt8) (tl : List Tk) : lex (oneX 8 e.text t) = some (oneT 8 e.toks tl) := by
  show lex (102 :: 40 :: (e.text ++ [41])) = _
  rw [lex_name 102 _ (by decide) (by decide) (by decide) (brk_of (by decide)), lex_par _ (text_first e _), lex_text e _ he (brk_of (by decide)), lex_rap, lex_nil]
  simp [oneT]
theorem lexX (k : Nat) (e : Gr) (he : e.fits) {t : List UInt8} {tl : List Tk} (ht : lex t = some tl) : lex (oneX k e.text t) = some (oneT k e.toks tl) := by
  have h := lex_texts e he
  match k with
  | 0 => exact lexX0 h ht
  | 1 => exact lexX1 h ht
  | 2 => exact lexX2 h ht
  | 3 => exact lexX3 h ht
  | 4 => exact lexX4 h ht
  | 5 => exact lexX5 h ht
  | 6 => exact lexX6 h ht
  | 7 => exact lexX7 e he t tl
  | 8 => exact lexX8 e he t tl
  | 9 => exact lx26
  | k + 10 => exact lexX10 h ht
theorem lex_bx : ∀ x : Bx, x.fits → lex x.text = some x.toks
  | .nil, _ => rfl
  | .emp r, hf => by
    unfold Bx.text Bx.toks
    split
    · rfl
    · rw [lex_sem, lex_sp, lex_bx r hf]; rfl
  | .st k e b r, hf => by
    have h1 := lexX k e hf.1 (lex_bx b hf.2.1)
    unfold Bx.text Bx.toks
    split
    · rw [List.append_nil, List.append_nil]; exact h1
    · exact lex_joined h1 (lex_bx r hf.2.2)
end Go.Proofs.Ytecmjhohniipoaa.St

end

section
namespace Go.Proofs.Ytecmjhohniipoaa.St
open Go.RowKit
open Tr (Nd Fo)
open Lx (Tk noTk lex lex_app lex_nil lex_appS lex_sp)
open Ex
def Bx.app : Bx → Bx → Bx
  | .nil, y => y
  | .emp r, y => .emp (r.app y)
  | .st k e b r, y => .st k e b (r.app y)
theorem one_len (k : Nat) (e t : List Tk) : 1 ≤ (oneT k e t).length ∧ (k ≤ 6 → t.length + 1 ≤ (oneT k e t).length) := by
  match k with
  | 0 => simp [oneT]; try omega
  | 1 => simp [oneT]; try omega
  | 2 => simp [oneT]; try omega
  | 3 => simp [oneT]; try omega
  | 4 => simp [oneT]; try omega
  | 5 => simp [oneT]; try omega
  | 6 => simp [oneT]; try omega
  | 7 => simp [oneT]
  | 8 => simp [oneT]
  | 9 => simp [oneT]
  | k + 10 => exact ⟨by simp [oneT], fun h => by omega⟩
theorem deep_le : ∀ x : Bx, x.deep ≤ x.toks.length
  | .nil => Nat.le_refl _
  | .emp r => by
    have := deep_le r
    unfold Bx.deep Bx.toks
    split
    · rename_i h; have := Bx.nil_of h; subst this; exact Nat.le_refl _
    · simp only [List.length_cons]; omega
  | .st k e b r => by
    have h1 := deep_le b
    have h2 := deep_le r
    have h3 := one_len k e.toks b.toks
    have h4 : r.deep ≤ (if r.isNil = true then [] else sy sSem :: r.toks).length := by
      split
      · rename_i h; have := Bx.nil_of h; subst this; exact Nat.le_refl _
      · simp only [List.length_cons]; omega
    unfold Bx.deep Bx.toks
    rw [List.length_append]
    split
    · have := h3.2 (by assumption); omega
    · omega
theorem row_at_ {s : List UInt8} {l : List Tk} (hs : s.length ≤ 10000) (h : lex s = some l) : AtT (rowP s) 0 l ∧ (rowP s).length = l.length ∧ (tk (rowP s) l.length).1 = noTk := by
  have h1 := row_some (by omega) h
  have hn : (rowP s).length = l.length := by rw [← h1, List.length_map]
  refine ⟨atT_of l [] 0 fun j hj => ?_, hn, ?_⟩
  · rw [tk_map, h1, Nat.zero_add, List.append_nil]
  · rw [tk_end (by omega)]; rfl
theorem body_text {s : List UInt8} {x : Bx} (hs : s.length ≤ 10000) (hf : x.fits) (h : lex s = some x.toks) {g : Nat} (hg : (rowP s).length < g) : ∃ T, bodyF g (g + 1) (rowP s) 0 = .ok (T, (rowP s).length) ∧ Bare (bodyT x.trees) T := by
  obtain ⟨h1, h2, h3⟩ := row_at_ hs h
  have hd := deep_le x
  obtain ⟨T, e, b⟩ := body_at (L := rowP s) (i := 0) hg (x := x) (f := g + 1) (by omega) hf h1 (by rw [Nat.zero_add, h3]; exact sS_no) (by rw [Nat.zero_add, h3]; rfl)
  rw [Nat.zero_add, ← h2] at e
  exact ⟨T, e, b⟩
abbrev Prt := Nat × List (Nat × Nat)
def partB (k : Nat) (e : Gr) (b r : Bx) : Bx := if k = 8 then .st 8 e .nil (.st 10 e .nil r) else .st k e b r
def loopP (inner : List Prt → Bx × Nat) (most : Nat) : Nat → Nat → List Prt → Bx × Nat
  | 0, _, _ => (.nil, 0)
  | _ + 1, _, [] => (.nil, 0)
  | f + 1, n, (d, e) :: l => if n < most then
      (partB (d % 9) (grownP 5 e).1 (if d % 9 < 7 then inner l else (.nil, 0)).1 (loopP inner most f (if d % 9 = 8 then n + 2 else n + 1) (l.drop (if d % 9 < 7 then inner l else (.nil, 0)).2)).1,
        1 + (if d % 9 < 7 then inner l else (.nil, 0)).2 + (loopP inner most f (if d % 9 = 8 then n + 2 else n + 1) (l.drop (if d % 9 < 7 then inner l else (.nil, 0)).2)).2)
    else (.nil, 0)
def textP : Nat → Nat → List Prt → Bx × Nat
  | 0, most, l => loopP (fun _ => (.nil, 0)) most (l.length + 1) 0 l
  | d + 1, most, l => loopP (fun l' => textP d 2 l') most (l.length + 1) 0 l
def PFit (l : List Prt) : Prop := ∀ p ∈ l, p.1 < 256 ∧ ∀ s ∈ p.2, s.1 < 256 ∧ s.2 ≤ 65535
theorem part_fits {k : Nat} {e : Gr} {b r : Bx} (he : e.fits) (hb : b.fits) (hr : r.fits) : (partB k e b r).fits := by
  unfold partB
  split
  · exact ⟨he, trivial, he, trivial, hr⟩
  · exact ⟨he, hb, hr⟩
theorem loop_ok {inner : List Prt → Bx × Nat} (hi : ∀ l, PFit l → (inner l).1.fits ∧ (inner l).2 ≤ l.length) (most : Nat) : ∀ (f n : Nat) (l : List Prt), PFit l → (loopP inner most f n l).1.fits ∧ (loopP inner most f n l).2 ≤ l.length
  | 0, n, l, _ => by rw [show loopP inner most 0 n l = (.nil, 0) by unfold loopP; rfl]; exact ⟨trivial, Nat.zero_le _⟩
  | f + 1, n, [], _ => by rw [show loopP inner most (f + 1) n [] = (.nil, 0) by unfold loopP; rfl]; exact ⟨trivial, Nat.zero_le _⟩
  | f + 1, n, (d, e) :: l, h => by
    have hl : PFit l := fun p hp => h p (List.mem_cons_of_mem _ hp)
    obtain ⟨he, _⟩ := grown_ok 5 e (fun s hs => ((h (d, e) (List.mem_cons_self ..)).2 s hs).2)
    have hin : (if d % 9 < 7 then inner l else (.nil, 0)).1.fits ∧ (if d % 9 < 7 then inner l else (.nil, 0)).2 ≤ l.length := by
      split
      · exact hi l hl
      · exact ⟨trivial, Nat.zero_le _⟩
    unfold loopP
    split
    · generalize (if d % 9 < 7 then inner l else (.nil, 0)) = q at *
      have ih := loop_ok hi most f (if d % 9 = 8 then n + 2 else n + 1) (l.drop q.2) (fun p hp => hl p (List.mem_of_mem_drop hp))
      rw [List.length_drop] at ih
      refine ⟨part_fits he hin.1 ih.1, ?_⟩
      simp only [List.length_cons]
      omega
    · exact ⟨trivial, Nat.zero_le _⟩
theorem text_ok : ∀ (d most : Nat) (l : List Prt), PFit l → (textP d most l).1.fits ∧ (textP d most l).2 ≤ l.length
  | 0, most, l, h => loop_ok (inner := fun _ => (Bx.nil, 0)) (fun l _ => ⟨(show Bx.nil.fits from trivial), Nat.zero_le _⟩) most _ _ l h
  | d + 1, most, l, h => loop_ok (fun l' h' => text_ok d 2 l' h') most _ _ l h
end Go.Proofs.Ytecmjhohniipoaa.St

end

section
namespace Go.Proofs.Ytecmjhohniipoaa.St
open Go.RowKit
open Tr (Nd Fo)
open Lx (Tk noTk lex lex_app lex_nil lex_appS lex_sp)
open Ex
theorem oneX_len (k : Nat) (e t : List UInt8) : (oneX k e t).length ≤ 2 * t.length + 2 * e.length + 50 := by
  match k with
  | 0 => simp [oneX]; try omega
  | 1 => simp [oneX]; try omega
  | 2 => simp [oneX]; try omega
  | 3 => simp [oneX]; try omega
  | 4 => simp [oneX]; try omega
  | 5 => simp [oneX]; try omega
  | 6 => simp [oneX]; try omega
  | 7 => simp [oneX]; try omega
  | 8 => simp [oneX]; try omega
  | 9 => simp [oneX]; try omega
  | k + 10 => simp [oneX]; try omega
theorem grown_used : ∀ (d : Nat) (l : List (Nat × Nat)), (grownP d l).2 + 1 ≤ 2 ^ d
  | 0, l => by unfold grownP; exact Nat.le_refl _
  | d + 1, [] => by
    rw [show grownP (d + 1) [] = (.z, 0) by unfold grownP; rfl]
    exact Nat.one_le_two_pow
  | d + 1, (a, n) :: l => by
    have h1 := grown_used d l
    have h2 := grown_used d (l.drop (grownP d l).2)
    have h3 : 2 ^ (d + 1) = 2 ^ d * 2 := Nat.pow_succ _ _
    rw [grownP_succ]
    split
    · simp only; omega
    · split
      · simp only; omega
      · split
        · simp only; omega
        · split
          · simp only; omega
          · split
            · simp only; omega
            · split
              · simp only; omega
              · simp only; omega
theorem grown5 (l : List (Nat × Nat)) (h : ∀ s ∈ l, s.2 ≤ 65535) : (grownP 5 l).1.text.length ≤ 280 := by
  obtain ⟨_, _, h1, _⟩ := grown_ok 5 l h
  have h2 := grown_used 5 l
  omega
theorem part_len (k : Nat) {e : Gr} (he : e.text.length ≤ 280) (b r : Bx) : (partB k e b r).text.length ≤ 2 * b.text.length + r.text.length + 1300 := by
  have h1 : ∀ (j : Nat) (b r : Bx), (Bx.st j e b r).text.length ≤ 2 * b.text.length + 610 + (r.text.length + 2) := fun j b r => by
    have h2 := oneX_len j e.text b.text
    show (oneX j e.text b.text ++ (if r.isNil = true then [] else 59 :: 32 :: r.text)).length ≤ _
    rw [List.length_append]
    have h3 : (if r.isNil = true then [] else 59 :: 32 :: r.text).length ≤ r.text.length + 2 := by
      split
      · exact Nat.zero_le _
      · simp
    omega
  unfold partB
  split
  · have h2 := h1 8 .nil (.st 10 e .nil r)
    have h3 := h1 10 .nil r
    have h4 : Bx.nil.text.length = 0 := rfl
    omega
  · have := h1 k b r; omega
def lenB : Nat → Nat
  | 0 => 1300
  | d + 1 => 2 * lenB d + 1300
theorem loop_len {inner : List Prt → Bx × Nat} {B : Nat} (hi : ∀ l, PFit l → (inner l).1.text.length ≤ B * (inner l).2) (most : Nat) : ∀ (f n : Nat) (l : List Prt), PFit l → (loopP inner most f n l).1.text.length ≤ (2 * B + 1300) * (loopP inner most f n l).2
  | 0, n, l, _ => by rw [show loopP inner most 0 n l = (.nil, 0) by unfold loopP; rfl]; exact Nat.zero_le _
  | f + 1, n, [], _ => by rw [show loopP inner most (f + 1) n [] = (.nil, 0) by unfold loopP; rfl]; exact Nat.zero_le _
  | f + 1, n, (d, e) :: l, h => by
    have hl : PFit l := fun p hp => h p (List.mem_cons_of_mem _ hp)
    have he := grown5 e (fun s hs => ((h (d, e) (List.mem_cons_self ..)).2 s hs).2)
    have hin : (if d % 9 < 7 then inner l else (.nil, 0)).1.text.length ≤ B * (if d % 9 < 7 then inner l else (.nil, 0)).2 := by
      split
      · exact hi l hl
      · exact Nat.zero_le _
    unfold loopP
    split
    · generalize (if d % 9 < 7 then inner l else (.nil, 0)) = q at *
      have ih := loop_len hi most f (if d % 9 = 8 then n + 2 else n + 1) (l.drop q.2) (fun p hp => hl p (List.mem_of_mem_drop hp))
      generalize loopP inner most f (if d % 9 = 8 then n + 2 else n + 1) (l.drop q.2) = r at *
      have hp := part_len (d % 9) he q.1 r.1
      show (partB (d % 9) (grownP 5 e).1 q.1 r.1).text.length ≤ (2 * B + 1300) * (1 + q.2 + r.2)
      rw [Nat.mul_add, Nat.mul_add]
      have h2 : (2 * B + 1300) * q.2 = 2 * (B * q.2) + 1300 * q.2 := by rw [Nat.add_mul, Nat.mul_assoc]
      omega
    · exact Nat.zero_le _
theorem text_len : ∀ (d most : Nat) (l : List Prt), PFit l → (textP d most l).1.text.length ≤ lenB d * (textP d most l).2
  | 0, most, l, h => by
    have := loop_len (inner := fun _ => (Bx.nil, 0)) (B := 0) (fun l _ => Nat.zero_le _) most (l.length + 1) 0 l h
    simpa [textP, lenB] using this
  | d + 1, most, l, h => loop_len (fun l' h' => text_len d 2 l' h') most _ _ l h
def headX (k : Nat) (t : List UInt8) : List UInt8 := match k with
  | 0 => [87, 72, 73, 76, 69] ++ 32 :: ([97] ++ 32 :: ([68, 79] ++ 32 :: (t ++ 32 :: ([69, 78, 68]))))
  | 1 => [76, 79, 79, 80] ++ 32 :: (t ++ 32 :: ([69, 78, 68]))
  | 2 => [73, 70] ++ 32 :: ([97] ++ 32 :: ([84, 72, 69, 78] ++ 32 :: (t ++ 32 :: ([69, 78, 68]))))
  | 3 => [87, 73, 84, 72] ++ 32 :: ([114] ++ 32 :: ([68, 79] ++ 32 :: (t ++ 32 :: ([69, 78, 68]))))
  | _ => [70, 79, 82] ++ 32 :: ([105] ++ 32 :: ([58, 61] ++ 32 :: ([49] ++ 32 :: ([84, 79] ++ 32 :: ([50] ++ 32 :: ([68, 79] ++ 32 :: (t ++ 32 :: ([69, 78, 68]))))))))
def headT (k : Nat) (t : List Tk) : List Tk := match k with
  | 0 => wd sWhile :: na 97 :: wd sDo :: (t ++ [wd sEnd])
  | 1 => wd sLoop :: (t ++ [wd sEnd])
  | 2 => wd sIf :: na 97 :: wd sThen :: (t ++ [wd sEnd])
  | 3 => wd sWith :: na 114 :: wd sDo :: (t ++ [wd sEnd])
  | _ => wd sFor :: na 105 :: sy sAsg :: nu 1 :: wd sTo :: nu 2 :: wd sDo :: (t ++ [wd sEnd])
theorem lxA : lex [49] = some [nu 1] := by kernel_rfl
theorem lxB : lex [114] = some [na 114] := by kernel_rfl
theorem lex_head (k : Nat) {t : List UInt8} {tl : List Tk} (ht : lex t = some tl) : lex (headX k t) = some (headT k tl) := by
  match k with
  | 0 =>
    show lex ([87, 72, 73, 76, 69] ++ 32 :: ([97] ++ 32 :: ([68, 79] ++ 32 :: (t ++ 32 :: ([69, 78, 68]))))) = _
    rw [la lx6, la lx3, la lx7, la ht, lx5]
    simp [headT]
  | 1 =>
    show lex ([76, 79, 79, 80] ++ 32 :: (t ++ 32 :: ([69, 78, 68]))) = _
    rw [la lx25, la ht, lx5]
    simp [headT]
  | 2 =>
    show lex ([73, 70] ++ 32 :: ([97] ++ 32 :: ([84, 72, 69, 78] ++ 32 :: (t ++ 32 :: ([69, 78, 68]))))) = _
    rw [la lx0, la lx3, la lx1, la ht, lx5]
    simp [headT]
  | 3 =>
    show lex ([87, 73, 84, 72] ++ 32 :: ([114] ++ 32 :: ([68, 79] ++ 32 :: (t ++ 32 :: ([69, 78, 68]))))) = _
    rw [la lx23, la lxB, la lx7, la ht, lx5]
    simp [headT]
  | k + 4 =>
    show lex ([70, 79, 82] ++ 32 :: ([105] ++ 32 :: ([58, 61] ++ 32 :: ([49] ++ 32 :: ([84, 79] ++ 32 :: ([50] ++ 32 :: ([68, 79] ++ 32 :: (t ++ 32 :: ([69, 78, 68]))))))))) = _
    rw [la lx10, la lx11, la lx12, la lxA, la lx13, la lx15, la lx7, la ht, lx5]
    simp [headT]
section
variable {g f : Nat} {L : List PT}
def LastB (g f : Nat) (L : List PT) (t : List Tk) (l : List T1) : Prop := ∀ i, AtT L i t → ∃ kd p n l0 T, stmS g (bodyF g f) L i = .ok ([mk kd p n 0 (l0 ++ [T])], i + t.length) ∧ Bare (bodyT l) T ∧ l0.length ≤ 3 ∧ kd < 256
theorem head_at (hg : L.length < g) {t : List Tk} {l : List T1} (hb : InB g f L t l) (k : Nat) : LastB g f L (headT k t) l := by
  intro i h
  match k, h with
  | 0, h =>
    obtain ⟨h0, h1, h2, h⟩ := h
    obtain ⟨h3, h4, _⟩ := atT_app h
    obtain ⟨x, e1, b1⟩ := expr_nm hg h1 (by rw [h2]; exact eW_do)
    obtain ⟨y, e2, b2⟩ := hb _ h3 (by rw [h4]; exact sS_end) (by rw [h4]; decide)
    refine ⟨64, (tk L i).2.1, sNil, [x], y, ?_, b2, by simp, by decide⟩
    rw [stm_w2 (by rw [h0]; rfl) (by rw [h0]; rfl)]
    unfold whileS endS
    rw [bind_ok (bind_ok e1 |>.trans ((need_at h2 rfl).trans ((bind_ok e2).trans ((need_at h4 rfl).trans ret_))))]
    exact ok_at (by simp [headT]; omega)
  | 1, h =>
    obtain ⟨h0, h⟩ := h
    obtain ⟨h3, h4, _⟩ := atT_app h
    obtain ⟨y, e2, b2⟩ := hb _ h3 (by rw [h4]; exact sS_end) (by rw [h4]; decide)
    refine ⟨66, (tk L i).2.1, sNil, [], y, ?_, b2, by simp, by decide⟩
    rw [stm_w4 (by rw [h0]; rfl) (by rw [h0]; rfl)]
    unfold loopS endS
    rw [bind_ok (bind_ok e2 |>.trans ((need_at h4 rfl).trans ret_))]
    exact ok_at (by simp [headT]; omega)
  | 2, h =>
    obtain ⟨h0, h1, h2, h⟩ := h
    obtain ⟨h3, h4, _⟩ := atT_app h
    obtain ⟨x, e1, b1⟩ := expr_nm hg h1 (by rw [h2]; exact eW_then)
    obtain ⟨y, e2, b2⟩ := hb _ h3 (by rw [h4]; exact sS_end) (by rw [h4]; decide)
    obtain ⟨n, hn⟩ : ∃ n, g = n + 1 := ⟨g - 1, by omega⟩
    refine ⟨62, (tk L i).2.1, sNil, [x], y, ?_, b2, by simp, by decide⟩
    rw [stm_w0 (by rw [h0]; rfl) (by rw [h0]; rfl)]
    have key : ifS g (bodyF g f) (tk L i).2.1 L (i + 1) = .ok (mk 62 (tk L i).2.1 sNil 0 [x, y], i + (headT 2 t).length) := by
      unfold ifS
      refine (congrArg (fun k => bindP (ifsF g (bodyF g f) k []) (fun l => elseS (bodyF g f) 62 (tk L i).2.1 l) L (i + 1)) hn).trans ?_
      rw [ifs_step]
      refine ((bind_ok e1).trans ((need_at h2 rfl).trans ((bind_ok e2).trans ((tok_not h4 rfl).trans ?_))))
      unfold elseS endS
      refine ((tok_not h4 rfl).trans ((need_at h4 rfl).trans ?_))
      exact ok_at (by simp [headT]; omega)
    rw [bind_ok key]
    rfl
  | 3, h =>
    obtain ⟨h0, h1, h2, h⟩ := h
    obtain ⟨h3, h4, _⟩ := atT_app h
    obtain ⟨y, e2, b2⟩ := hb _ h3 (by rw [h4]; exact sS_end) (by rw [h4]; decide)
    have hd : designF (exprF g) g L (i + 1) = .ok (mk 1 (tk L (i + 1)).2.1 (tk L (i + 1)).1.text 0 [], i + 1 + 1) := by
      have a1 : ∀ m x, dotsF m x L (i + 1 + 1) = .ok (x, i + 1 + 1) := fun m x => by
        cases m with
        | zero => rfl
        | succ m => exact (tok_not h2 rfl).trans ret_
      have a2 : ∀ m x, desF (exprF g) g m x L (i + 1 + 1) = .ok (x, i + 1 + 1) := fun m x => by
        cases m with
        | zero => rfl
        | succ m => exact (tok_not h2 rfl).trans ((tok_not h2 rfl).trans ((tok_not h2 rfl).trans ret_))
      exact (bind_ok ((bind_ok (name_yes h1)).trans (a1 _ _))).trans (a2 _ _)
    refine ⟨69, (tk L i).2.1, sNil, [mk 1 (tk L (i + 1)).2.1 (tk L (i + 1)).1.text 0 []], y, ?_, b2, by simp, by decide⟩
    rw [stm_w7 (by rw [h0]; rfl) (by rw [h0]; rfl)]
    unfold withS endS
    rw [bind_ok ((bind_ok hd).trans ((need_at h2 rfl).trans ((bind_ok e2).trans ((need_at h4 rfl).trans ret_))))]
    exact ok_at (by simp [headT]; omega)
  | k + 4, h =>
    obtain ⟨h0, h00, h01, h1, h2, h3, h4, h⟩ := h
    obtain ⟨h7, h8, _⟩ := atT_app h
    obtain ⟨x, e1, b1⟩ := expr_nu hg (n := 1) (by decide) h1 (by rw [h2]; exact eW_to)
    obtain ⟨y, e2, b2⟩ := expr_nu hg (n := 2) (by decide) h3 (by rw [h4]; exact eW_do)
    obtain ⟨w, e4, b4⟩ := hb _ h7 (by rw [h8]; exact sS_end) (by rw [h8]; decide)
    refine ⟨68, (tk L i).2.1, (tk L (i + 1)).1.text, [x, y, zeroT], w, ?_, b4, by simp, by decide⟩
    rw [stm_w6 (by rw [h0]; rfl) (by rw [h0]; rfl)]
    unfold forS forE endS
    rw [bind_ok ((tok_y (t := isNm) (show isNm (tk L (i + 1)) = true by unfold isNm; rw [h00]; rfl)).trans ((need_at h01 rfl).trans ((bind_ok e1).trans ((need_at h2 rfl).trans ((bind_ok e2).trans ((tok_not h4 rfl).trans ((need_at h4 rfl).trans ((bind_ok e4).trans ((need_at h8 rfl).trans ret_)))))))))]
    exact ok_at (by simp [headT]; omega)
end
theorem within_plain {x : Bx} (hf : x.fits) (k : Nat) {L : List PT} (hL : L = rowP (headX k x.text)) (hs : (headX k x.text).length ≤ 10000) {g : Nat} (hg : L.length < g) :
    ∃ p kd p1 n l0 T, bodyF g (g + 1) L 0 = .ok (mk 46 p sNil 0 [mk kd p1 n 0 (l0 ++ [T])], L.length) ∧ Bare (bodyT x.trees) T ∧ l0.length ≤ 3 := by
  obtain ⟨h1, h2, h3⟩ := row_at_ hs (lex_head k (lex_bx x hf))
  rw [← hL] at h1 h2 h3
  have hd := deep_le x
  have hlen : x.toks.length + 1 ≤ (headT k x.toks).length := by
    match k with
    | 0 => simp [headT]; try omega
    | 1 => simp [headT]; try omega
    | 2 => simp [headT]; try omega
    | 3 => simp [headT]; try omega
    | k + 4 => simp [headT]; try omega
  obtain ⟨m, hm⟩ : ∃ m, g = m + 1 := ⟨g - 1, by omega⟩
  have hb : InB g (m + 1) L x.toks x.trees := inB_of hg (items_at hg x m (by omega) hf)
  rw [← hm] at hb
  obtain ⟨kd, p1, n, l0, T, e, b, hl, _⟩ := head_at hg hb k 0 h1
  refine ⟨(tk L 0).2.1, kd, p1, n, l0, T, ?_, b, hl⟩
  show bindP (bodyR g (bodyF g g) g []) (fun l => retP (mk 46 (tk L 0).2.1 sNil 0 l)) L 0 = _
  have h4 : bodyR g (bodyF g g) g [] L 0 = .ok ([mk kd p1 n 0 (l0 ++ [T])], L.length) := by
    rw [congrArg (fun k => bodyR g (bodyF g g) k [] L 0) hm]
    rw [step_items e, Nat.zero_add, tok_not (t := noTk) h3 rfl, ← h2]
    rfl
  rw [bind_ok h4]
  rfl
end Go.Proofs.Ytecmjhohniipoaa.St

end

section
namespace Go.Proofs.Ytecmjhohniipoaa.Ex
open Go.RowKit
open Tr (Nd Fo RepS RepN Rep cellsN)
open Lx (Tk noTk run_store_complexL bt)
open Fl
attribute [local go_sem] run_store_complexL run_field1 run_field3
abbrev opsV : Array Value := #[.string ⟨#[42]⟩, .string ⟨#[47]⟩, .string ⟨#[68, 73, 86]⟩, .string ⟨#[77, 79, 68]⟩, .string ⟨#[65, 78, 68]⟩, .string ⟨#[43]⟩, .string ⟨#[45]⟩, .string ⟨#[79, 82]⟩, .string ⟨#[61]⟩, .string ⟨#[35]⟩, .string ⟨#[60]⟩, .string ⟨#[60, 61]⟩, .string ⟨#[62]⟩, .string ⟨#[62, 61]⟩, .string ⟨#[73, 78]⟩]
theorem opsV_at : ∀ k, k < 15 → opsV[k]? = some (.string (opB k)) := by
  intro k hk
  iterate 15 (rcases k with _ | k; · rfl)
  omega
theorem op_size : ∀ k, k < 15 → (opB k).size ≤ 3 := by decide
def GrownR (w : World) (g : Gr) (n : Nat) (e : Ending) (w' : World) : Prop := ∃ b, e = .returned (.tuple #[.pointer (some ⟨b, 0, none⟩), .string (bt g.text), .int .i64 n]) ∧ RepS (fun y => w.heap.size ≤ y) w' (.node g.tree.1 g.tree.2 .no) [.pointer (some ⟨b, 0, none⟩)] ∧ Below w.heap.size w w'
def GrownIH (d : Nat) : Prop := ∀ (l : List (Nat × Nat)) (A : Option Addr) (c : Nat) (w : World), d ≤ 6 → Seeds w A c l → ∀ D : Int, D = (d : Nat) → Calls Try.prog 20 #[.slice A l.length c, .int .i64 D] w (GrownR w (grownP d l).1 (grownP d l).2)
theorem grown_size (d : Nat) (l : List (Nat × Nat)) (h : ∀ s ∈ l, s.1 < 256 ∧ s.2 ≤ 65535) (hl : d ≤ 6) : (bt (grownP d l).1.text).size ≤ 600 ∧ ((grownP d l).2 ≤ l.length ∧ (grownP d l).2 ≤ 63) := by
  obtain ⟨_, h1, h2, _⟩ := grown_ok d l (fun s hs => (h s hs).2)
  have h3 := St.grown_used d l
  have h4 : (2 : Nat) ^ d ≤ 2 ^ 6 := Nat.pow_le_pow_right (by decide) hl
  have h5 : (2 : Nat) ^ 6 = 64 := rfl
  exact ⟨by show (grownP d l).1.text.toArray.size ≤ 600; simp; omega, h1, by omega⟩
set_option maxRecDepth 100000 in
set_option maxHeartbeats 1600000 in
theorem grown_z (d : Nat) (l : List (Nat × Nat)) (A : Option Addr) (c : Nat) (w : World) (D : Int) (h : l = [] ∨ D = 0) (hg : grownP d l = (.z, 0)) : Calls Try.prog 20 #[.slice A l.length c, .int .i64 D] w (GrownR w (grownP d l).1 (grownP d l).2) := by
  rw [hg]
  have hb := (Below.refl w.heap.size w).alloc (Nat.le_refl _) (.cells #[.int .u8 1, .complex .f64 0 0, .string ⟨#[122]⟩, .int .i64 0, .slice none 0 0] 42)
  have hr := mk_leaf (B := w.heap.size) (kind := 1) (name := ⟨#[122]⟩) (n := 0) (Tr.Blk.new w 42 #[.int .u8 1, .complex .f64 0 0, .string ⟨#[122]⟩, .int .i64 0, .slice none 0 0]) (Nat.le_refl _)
  have HR := Lib.hid (And.intro hr hb)
  have hx : ((l.length : Int) == 0) = true ∨ (((l.length : Int) == 0) = false ∧ (D == 0) = true) := by
    rcases h with rfl | rfl
    · exact .inl rfl
    · cases ((l.length : Int) == 0)
      · exact .inr ⟨rfl, rfl⟩
      · exact .inl rfl
  clear hr hb h hg
  rcases hx with b1 | ⟨b1, b2⟩
  all_goals
    go_enter Try.func20, Try.ntmps20
    go_wp2
    go_ret3
    exact ⟨w.heap.size, rfl, HR.out.1, HR.out.2⟩
structure GK (w w' : World) (n : Nat) : Prop where
  bel : Below w.heap.size w w'
  lt : w.heap.size + 1 < w'.heap.size
  s1 : w'.cell? ⟨w.heap.size, 1, none⟩ = some (.int .u16 n)
  ops : ∀ p, p < 15 → w'.cell? ⟨w.heap.size + 1, p, none⟩ = some (.string (opB p))
theorem GK.below {w w' w2 : World} {n : Nat} (h : GK w w' n) (hb : Below w'.heap.size w' w2) : GK w w2 n :=
  ⟨h.bel.trans (hb.mono h.bel.size), Nat.lt_of_lt_of_le h.lt hb.size, (hb.cell (p := ⟨w.heap.size, 1, none⟩) (by have := h.lt; simp only; omega)).trans h.s1, fun p hp => (hb.cell (p := ⟨w.heap.size + 1, p, none⟩) h.lt).trans (h.ops p hp)⟩
theorem GK.start (w : World) (a n : Nat) : GK w ((w.alloc (.cells #[.int .u8 a, .int .u16 n] 80)).alloc (.cells opsV 9)) n := by
  have h0 : (w.alloc (.cells #[.int .u8 a, .int .u16 n] 80)).heap.size = w.heap.size + 1 := World.size_alloc _ _
  have hb := Lx.Blk.new w 80 #[.int .u8 a, .int .u16 n]
  refine ⟨((Below.refl _ _).alloc (Nat.le_refl _) _).alloc (by rw [h0]; omega) _, by rw [World.size_alloc, h0]; omega, (hb.alloc _).cell 1, fun p hp => ?_⟩
  have := Lx.Blk.new (w.alloc (.cells #[.int .u8 a, .int .u16 n] 80)) 9 opsV
  rw [h0] at this
  rw [this.cell p]
  exact opsV_at p hp
theorem bt_data (l : List UInt8) : (bt l).data.toList = l := by simp [bt]
theorem un_at (q : Nat) (hq : q < 3) (W : World) : (W.alloc (.cells #[.string ⟨#[43]⟩, .string ⟨#[45]⟩, .string ⟨#[78, 79, 84]⟩] 9)).cell? ⟨W.heap.size, q, none⟩ = some (.string (unB q)) := by
  rw [(Lx.Blk.new W 9 _).cell q]
  obtain rfl | rfl | rfl : q = 0 ∨ q = 1 ∨ q = 2 := by omega
  · rfl
  · rfl
  · rfl
theorem rep_two {B : Nat} {w : World} {x y : T1} {b1 b2 : Nat} (h1 : RepS (fun z => B ≤ z) w (.node x.1 x.2 .no) [.pointer (some ⟨b1, 0, none⟩)]) (h2 : RepS (fun z => B ≤ z) w (.node y.1 y.2 .no) [.pointer (some ⟨b2, 0, none⟩)]) : RepS (fun z => B ≤ z) w (forest [x, y]) [.pointer (some ⟨b1, 0, none⟩), .pointer (some ⟨b2, 0, none⟩)] := repS_cons h1 h2
theorem rep_one {B : Nat} {w : World} {x : T1} {v : Value} (h1 : RepS (fun z => B ≤ z) w (.node x.1 x.2 .no) [v]) : RepS (fun z => B ≤ z) w (forest [x]) [v] := h1
theorem rep_three {B : Nat} {w : World} {x y z : T1} {b1 b2 b3 : Nat} (h1 : RepS (fun z => B ≤ z) w (.node x.1 x.2 .no) [.pointer (some ⟨b1, 0, none⟩)]) (h2 : RepS (fun z => B ≤ z) w (.node y.1 y.2 .no) [.pointer (some ⟨b2, 0, none⟩)]) (h3 : RepS (fun z => B ≤ z) w (.node z.1 z.2 .no) [.pointer (some ⟨b3, 0, none⟩)]) : RepS (fun z => B ≤ z) w (forest [x, y, z]) [.pointer (some ⟨b1, 0, none⟩), .pointer (some ⟨b2, 0, none⟩), .pointer (some ⟨b3, 0, none⟩)] := repS_cons h1 (repS_cons h2 h3)
theorem rep_up {B : Nat} {w w' : World} {x : T1} {vs : List Value} (h : RepS (fun z => B ≤ z) w (.node x.1 x.2 .no) vs) (hb : Below w.heap.size w w') : RepS (fun z => B ≤ z) w' (.node x.1 x.2 .no) vs := h.below hb
theorem rep_lo {B B' : Nat} {w : World} {x : T1} {vs : List Value} (h : RepS (fun z => B' ≤ z) w (.node x.1 x.2 .no) vs) (hB : B ≤ B') : RepS (fun z => B ≤ z) w (.node x.1 x.2 .no) vs := h.more fun y hy _ => Nat.le_trans hB hy
theorem hn_ (W : World) (o : Obj) (m : Nat) (h : W.heap.size = m) : (W.alloc o).heap[m]? = some o := by rw [← h]; exact heap_alloc_new W o
theorem ho_ {W : World} {o' : Obj} {m : Nat} (o : Obj) (h : W.heap[m]? = some o') : (W.alloc o).heap[m]? = some o' := (Below.heap_alloc W o m (obj_lt h)).trans h
theorem ha_ {w W : World} (h : Below w.heap.size w W) (o : Obj) : Below w.heap.size w (W.alloc o) := h.alloc h.size o
theorem ret3_ {v : Value} {s s' : ByteArray} {i i' : Int} (h1 : s = s') (h2 : i = i') : Ending.returned (.tuple #[v, .string s, .int .i64 i]) = .returned (.tuple #[v, .string s', .int .i64 i']) := by rw [h1, h2]
theorem num_a {w W x : World} {cs : Array Value} (hB : Below w.heap.size w W) (hb : Below (W.alloc (.cells cs 42)).drew.heap.size (W.alloc (.cells cs 42)).drew x) : Below w.heap.size w x ∧ Tr.Blk x W.heap.size 42 cs := by
  have h1 : Below w.heap.size w (W.alloc (.cells cs 42)).drew := (hB.alloc hB.size _).drew
  refine ⟨h1.trans (hb.mono h1.size), ?_⟩
  have h2 : Tr.Blk (W.alloc (.cells cs 42)).drew W.heap.size 42 cs := (Tr.Blk.new W 42 cs).drew
  exact h2.below hb h2.lt
theorem num_b {w W x : World} (cs : Array Value) (hB : Below w.heap.size w W) (hb : Below W.drew.heap.size W.drew x) : Below w.heap.size w (x.alloc (.cells cs 42)) ∧ Tr.Blk (x.alloc (.cells cs 42)) x.heap.size 42 cs := by
  have h1 : Below w.heap.size w x := (hB.drew).trans (hb.mono hB.size)
  exact ⟨h1.alloc h1.size _, Tr.Blk.new _ _ _⟩
theorem bel1 (w : World) (o : Obj) : Below w.heap.size w (w.alloc o) := (Below.refl _ _).alloc (Nat.le_refl _) _
set_option maxRecDepth 100000 in
set_option maxHeartbeats 12800000 in
theorem grown_bin0 (d : Nat) (IH : GrownIH d) (a n : Nat) (l : List (Nat × Nat)) (A : Option Addr) (c : Nat) (w : World) (hl : ((a, n) :: l).length ≤ 9223372036854775807) (h : Seeds w A c ((a, n) :: l)) (D : Int) (hD : D = ((d + 1 : Nat) : Int)) (hd : d ≤ 5) (ea : a % 9 = 0) :
    Calls Try.prog 20 #[.slice A ((a, n) :: l).length c, .int .i64 D] w (GrownR w (grownP (d + 1) ((a, n) :: l)).1 (grownP (d + 1) ((a, n) :: l)).2) := by
  obtain ⟨g0, off, rfl, hg0, k0, k1⟩ := h.first
  obtain ⟨fa, fn⟩ := h.fit (a, n) (by simp)
  simp only at fa fn k0 k1
  have HG := Lib.hid (show grownP (d + 1) ((a, n) :: l) = (.bin (n % 15) (grownP d l).1 (grownP d (l.drop (grownP d l).2)).1, 1 + (grownP d l).2 + (grownP d (l.drop (grownP d l).2)).2) by rw [grownP_succ, if_pos (by omega)])
  have HS := Lib.hid h
  have HIH := Lib.hid IH
  have hll : l.length ≤ 9223372036854775806 := by simp only [List.length_cons] at hl; omega
  have hlf : ∀ s ∈ l, s.1 < 256 ∧ s.2 ≤ 65535 := fun s hs => h.fit s (by simp [hs])
  have hcap := h.cap
  obtain ⟨N, hN⟩ : ∃ N, ((a, n) :: l).length = N := ⟨_, rfl⟩
  have HN := Lib.hid hN
  rw [hN] at hl hcap ⊢
  have hN1 : 1 ≤ N := by simp only [List.length_cons] at hN; omega
  have x1 : (0 : Int) ≤ (a : Int) := by omega
  have x2 : (a : Int) ≤ 255 := by omega
  have x3 : (0 : Int) ≤ (n : Int) := by omega
  have x4 : (n : Int) ≤ 65535 := by omega
  have x5 : (1 : Int) ≤ (N : Int) := by omega
  have x6 : (1 : Int) ≤ D := by omega
  have x7 : ((N : Int) == 0) = false := by simp only [beq_eq_false_iff_ne, ne_eq]; omega
  have x8 : (D == 0) = false := by simp only [beq_eq_false_iff_ne, ne_eq]; omega
  have x9 : D ≤ 9223372036854775807 := by omega
  have ea' : (a : Int) % 9 = 0 := by omega
  have HD := Lib.hid hD
  have HF := Lib.hid hlf
  obtain ⟨A1, hs1, HS1⟩ := seeds_slice h (k := 1) (by simp only [List.length_cons]; omega) 1 rfl
  rw [hN, show (((a, n) :: l).drop 1).length = l.length from rfl] at hs1
  have HS1 := Lib.hid (show Seeds w A1 (c - 1) l from HS1)
  obtain ⟨G1, m1, e1⟩ : ∃ G m, grownP d l = (G, m) := ⟨_, _, rfl⟩
  have z1 := grown_size d l hlf (by omega)
  rw [e1] at HG z1
  obtain ⟨z1, z2⟩ := z1
  simp only at z1 z2 HG
  have C1 := Lib.hid (show ∀ W, Seeds W A1 (c - 1) l → Calls Try.prog 20 #[.slice A1 l.length (c - 1), .int .i64 (D - 1)] W (GrownR W G1 m1) from fun W hW => by
    have := IH l A1 (c - 1) W (by omega) hW (D - 1) (by rw [hD]; omega)
    rw [e1] at this
    exact this)
  have y1 : (0 : Int) ≤ (m1 : Int) := by omega
  have y2 : (m1 : Int) ≤ 63 := by omega
  obtain ⟨A2, hs2, HS2⟩ := seeds_slice h (k := 1 + m1) (by simp only [List.length_cons]; omega) (1 + (m1 : Int)) (by omega)
  have ed : ((a, n) :: l).drop (1 + m1) = l.drop m1 := by rw [Nat.add_comm]; rfl
  rw [hN, ed, List.length_drop] at hs2
  rw [ed] at HS2
  have HS2 := Lib.hid HS2
  obtain ⟨G2, m2, e2⟩ : ∃ G m, grownP d (l.drop m1) = (G, m) := ⟨_, _, rfl⟩
  have z3 := grown_size d (l.drop m1) (fun s hs => hlf s (List.mem_of_mem_drop hs)) (by first | omega | (rw [List.length_drop]; omega))
  rw [e2] at HG z3
  obtain ⟨z3, z4⟩ := z3
  rw [List.length_drop] at z4
  simp only at z3 z4 HG
  have C2 := Lib.hid (show ∀ W, Seeds W A2 (c - (1 + m1)) (l.drop m1) → Calls Try.prog 20 #[.slice A2 (l.length - m1) (c - (1 + m1)), .int .i64 (D - 1)] W (GrownR W G2 m2) from fun W hW => by
    have := IH (l.drop m1) A2 (c - (1 + m1)) W (by first | omega | (rw [List.length_drop]; omega)) hW (D - 1) (by rw [hD]; omega)
    rw [e2, List.length_drop] at this
    exact this)
  have y3 : (0 : Int) ≤ (m2 : Int) := by omega
  have y4 : (m2 : Int) ≤ 63 := by omega
  have ep : (n : Int) % 15 = ((n % 15 : Nat) : Int) := by omega
  have hp := op_size (n % 15) (by omega)
  have ha1 : ((n % 15 : Nat) : Int) < 15 := by omega
  have ha0 : (0 : Int) ≤ ((n % 15 : Nat) : Int) := by omega
  obtain ⟨p, hpp⟩ : ∃ p, n % 15 = p := ⟨_, rfl⟩
  have hp15 : p < 15 := by omega
  rw [hpp] at HG ep hp ha1 ha0
  clear hpp
  clear h IH hN hlf hD hd ea fa fn
  generalize grownP (d + 1) ((a, n) :: l) = gg at *
  go_enter Try.func20, Try.ntmps20
  have KS := Lib.hid (GK.start w a n)
  have D1 := Lib.hid (C1.out _ (HS1.out.below KS.out.bel))
  go_wp2_with fail
  ((with_reducible refine D1.out.mono ?_); rintro e w1 ⟨b1, rfl, hr1, hb1⟩)
  have hw1 := KS.out.lt
  have HR1 := Lib.hid (rep_lo hr1 (B := w.heap.size) (by omega))
  have KS := Lib.hid (KS.out.below hb1)
  clear hr1 hb1 D1 hw1
  have D2 := Lib.hid (C2.out w1 (HS2.out.below KS.out.bel))
  go_wp2_with fail
  ((with_reducible refine D2.out.mono ?_); rintro e w2 ⟨b2, rfl, hr2, hb2⟩)
  have hw1 := KS.out.lt
  have HR1 := Lib.hid (rep_up HR1.out hb2)
  have HR2 := Lib.hid (rep_lo hr2 (B := w.heap.size) (by omega))
  have KS := Lib.hid (KS.out.below hb2)
  clear hr2 hb2 D2 hw1
  have v1 := KS.out.s1
  have v2 := KS.out.ops p hp15
  go_wp2
  go_ret3
  rw [HG.out]
  refine ⟨w2.heap.size + 1, ret3_ (Lx.bytes_ext (by simp [bt_data, Gr.text, ByteArray.data_append, opTx, unT])) (by push_cast; omega), ?_, KS.out.bel.trans ((ha_ (ha_ (Below.refl w2.heap.size w2) _) _).mono KS.out.bel.size)⟩
  show RepS _ _ (.node (mk 11 (0, 0) (opB p) 0 [G1.tree, G2.tree]).1 (mk 11 (0, 0) (opB p) 0 [G1.tree, G2.tree]).2 .no) _
  exact (mk_node (B := w.heap.size) (b := w2.heap.size + 1) (g := w2.heap.size) (vs := [.pointer (some ⟨b1, 0, none⟩), .pointer (some ⟨b2, 0, none⟩)]) rfl (hn_ _ _ _ (by simp [World.size_alloc])) (by have := KS.out.bel.size; omega) (by have := KS.out.bel.size; omega) (ho_ _ (hn_ _ _ _ (by simp [World.size_alloc]))) (rep_two (rep_up HR1.out (ha_ (ha_ (Below.refl w2.heap.size w2) _) _)) (rep_up HR2.out (ha_ (ha_ (Below.refl w2.heap.size w2) _) _))))
set_option maxRecDepth 100000 in
set_option maxHeartbeats 12800000 in
theorem grown_bin1 (d : Nat) (IH : GrownIH d) (a n : Nat) (l : List (Nat × Nat)) (A : Option Addr) (c : Nat) (w : World) (hl : ((a, n) :: l).length ≤ 9223372036854775807) (h : Seeds w A c ((a, n) :: l)) (D : Int) (hD : D = ((d + 1 : Nat) : Int)) (hd : d ≤ 5) (ea : a % 9 = 1) :
    Calls Try.prog 20 #[.slice A ((a, n) :: l).length c, .int .i64 D] w (GrownR w (grownP (d + 1) ((a, n) :: l)).1 (grownP (d + 1) ((a, n) :: l)).2) := by
  obtain ⟨g0, off, rfl, hg0, k0, k1⟩ := h.first
  obtain ⟨fa, fn⟩ := h.fit (a, n) (by simp)
  simp only at fa fn k0 k1
  have HG := Lib.hid (show grownP (d + 1) ((a, n) :: l) = (.bin (n % 15) (grownP d l).1 (grownP d (l.drop (grownP d l).2)).1, 1 + (grownP d l).2 + (grownP d (l.drop (grownP d l).2)).2) by rw [grownP_succ, if_pos (by omega)])
  have HS := Lib.hid h
  have HIH := Lib.hid IH
  have hll : l.length ≤ 9223372036854775806 := by simp only [List.length_cons] at hl; omega
  have hlf : ∀ s ∈ l, s.1 < 256 ∧ s.2 ≤ 65535 := fun s hs => h.fit s (by simp [hs])
  have hcap := h.cap
  obtain ⟨N, hN⟩ : ∃ N, ((a, n) :: l).length = N := ⟨_, rfl⟩
  have HN := Lib.hid hN
  rw [hN] at hl hcap ⊢
  have hN1 : 1 ≤ N := by simp only [List.length_cons] at hN; omega
  have x1 : (0 : Int) ≤ (a : Int) := by omega
  have x2 : (a : Int) ≤ 255 := by omega
  have x3 : (0 : Int) ≤ (n : Int) := by omega
  have x4 : (n : Int) ≤ 65535 := by omega
  have x5 : (1 : Int) ≤ (N : Int) := by omega
  have x6 : (1 : Int) ≤ D := by omega
  have x7 : ((N : Int) == 0) = false := by simp only [beq_eq_false_iff_ne, ne_eq]; omega
  have x8 : (D == 0) = false := by simp only [beq_eq_false_iff_ne, ne_eq]; omega
  have x9 : D ≤ 9223372036854775807 := by omega
  have ea' : (a : Int) % 9 = 1 := by omega
  have HD := Lib.hid hD
  have HF := Lib.hid hlf
  obtain ⟨A1, hs1, HS1⟩ := seeds_slice h (k := 1) (by simp only [List.length_cons]; omega) 1 rfl
  rw [hN, show (((a, n) :: l).drop 1).length = l.length from rfl] at hs1
  have HS1 := Lib.hid (show Seeds w A1 (c - 1) l from HS1)
  obtain ⟨G1, m1, e1⟩ : ∃ G m, grownP d l = (G, m) := ⟨_, _, rfl⟩
  have z1 := grown_size d l hlf (by omega)
  rw [e1] at HG z1
  obtain ⟨z1, z2⟩ := z1
  simp only at z1 z2 HG
  have C1 := Lib.hid (show ∀ W, Seeds W A1 (c - 1) l → Calls Try.prog 20 #[.slice A1 l.length (c - 1), .int .i64 (D - 1)] W (GrownR W G1 m1) from fun W hW => by
    have := IH l A1 (c - 1) W (by omega) hW (D - 1) (by rw [hD]; omega)
    rw [e1] at this
    exact this)
  have y1 : (0 : Int) ≤ (m1 : Int) := by omega
  have y2 : (m1 : Int) ≤ 63 := by omega
  obtain ⟨A2, hs2, HS2⟩ := seeds_slice h (k := 1 + m1) (by simp only [List.length_cons]; omega) (1 + (m1 : Int)) (by omega)
  have ed : ((a, n) :: l).drop (1 + m1) = l.drop m1 := by rw [Nat.add_comm]; rfl
  rw [hN, ed, List.length_drop] at hs2
  rw [ed] at HS2
  have HS2 := Lib.hid HS2
  obtain ⟨G2, m2, e2⟩ : ∃ G m, grownP d (l.drop m1) = (G, m) := ⟨_, _, rfl⟩
  have z3 := grown_size d (l.drop m1) (fun s hs => hlf s (List.mem_of_mem_drop hs)) (by first | omega | (rw [List.length_drop]; omega))
  rw [e2] at HG z3
  obtain ⟨z3, z4⟩ := z3
  rw [List.length_drop] at z4
  simp only at z3 z4 HG
  have C2 := Lib.hid (show ∀ W, Seeds W A2 (c - (1 + m1)) (l.drop m1) → Calls Try.prog 20 #[.slice A2 (l.length - m1) (c - (1 + m1)), .int .i64 (D - 1)] W (GrownR W G2 m2) from fun W hW => by
    have := IH (l.drop m1) A2 (c - (1 + m1)) W (by first | omega | (rw [List.length_drop]; omega)) hW (D - 1) (by rw [hD]; omega)
    rw [e2, List.length_drop] at this
    exact this)
  have y3 : (0 : Int) ≤ (m2 : Int) := by omega
  have y4 : (m2 : Int) ≤ 63 := by omega
  have ep : (n : Int) % 15 = ((n % 15 : Nat) : Int) := by omega
  have hp := op_size (n % 15) (by omega)
  have ha1 : ((n % 15 : Nat) : Int) < 15 := by omega
  have ha0 : (0 : Int) ≤ ((n % 15 : Nat) : Int) := by omega
  obtain ⟨p, hpp⟩ : ∃ p, n % 15 = p := ⟨_, rfl⟩
  have hp15 : p < 15 := by omega
  rw [hpp] at HG ep hp ha1 ha0
  clear hpp
  clear h IH hN hlf hD hd ea fa fn
  generalize grownP (d + 1) ((a, n) :: l) = gg at *
  go_enter Try.func20, Try.ntmps20
  have KS := Lib.hid (GK.start w a n)
  have D1 := Lib.hid (C1.out _ (HS1.out.below KS.out.bel))
  go_wp2_with fail
  ((with_reducible refine D1.out.mono ?_); rintro e w1 ⟨b1, rfl, hr1, hb1⟩)
  have hw1 := KS.out.lt
  have HR1 := Lib.hid (rep_lo hr1 (B := w.heap.size) (by omega))
  have KS := Lib.hid (KS.out.below hb1)
  clear hr1 hb1 D1 hw1
  have D2 := Lib.hid (C2.out w1 (HS2.out.below KS.out.bel))
  go_wp2_with fail
  ((with_reducible refine D2.out.mono ?_); rintro e w2 ⟨b2, rfl, hr2, hb2⟩)
  have hw1 := KS.out.lt
  have HR1 := Lib.hid (rep_up HR1.out hb2)
  have HR2 := Lib.hid (rep_lo hr2 (B := w.heap.size) (by omega))
  have KS := Lib.hid (KS.out.below hb2)
  clear hr2 hb2 D2 hw1
  have v1 := KS.out.s1
  have v2 := KS.out.ops p hp15
  go_wp2
  go_ret3
  rw [HG.out]
  refine ⟨w2.heap.size + 1, ret3_ (Lx.bytes_ext (by simp [bt_data, Gr.text, ByteArray.data_append, opTx, unT])) (by push_cast; omega), ?_, KS.out.bel.trans ((ha_ (ha_ (Below.refl w2.heap.size w2) _) _).mono KS.out.bel.size)⟩
  show RepS _ _ (.node (mk 11 (0, 0) (opB p) 0 [G1.tree, G2.tree]).1 (mk 11 (0, 0) (opB p) 0 [G1.tree, G2.tree]).2 .no) _
  exact (mk_node (B := w.heap.size) (b := w2.heap.size + 1) (g := w2.heap.size) (vs := [.pointer (some ⟨b1, 0, none⟩), .pointer (some ⟨b2, 0, none⟩)]) rfl (hn_ _ _ _ (by simp [World.size_alloc])) (by have := KS.out.bel.size; omega) (by have := KS.out.bel.size; omega) (ho_ _ (hn_ _ _ _ (by simp [World.size_alloc]))) (rep_two (rep_up HR1.out (ha_ (ha_ (Below.refl w2.heap.size w2) _) _)) (rep_up HR2.out (ha_ (ha_ (Below.refl w2.heap.size w2) _) _))))
set_option maxRecDepth 100000 in
set_option maxHeartbeats 12800000 in
theorem grown_bin2 (d : Nat) (IH : GrownIH d) (a n : Nat) (l : List (Nat × Nat)) (A : Option Addr) (c : Nat) (w : World) (hl : ((a, n) :: l).length ≤ 9223372036854775807) (h : Seeds w A c ((a, n) :: l)) (D : Int) (hD : D = ((d + 1 : Nat) : Int)) (hd : d ≤ 5) (ea : a % 9 = 2) :
    Calls Try.prog 20 #[.slice A ((a, n) :: l).length c, .int .i64 D] w (GrownR w (grownP (d + 1) ((a, n) :: l)).1 (grownP (d + 1) ((a, n) :: l)).2) := by
  obtain ⟨g0, off, rfl, hg0, k0, k1⟩ := h.first
  obtain ⟨fa, fn⟩ := h.fit (a, n) (by simp)
  simp only at fa fn k0 k1
  have HG := Lib.hid (show grownP (d + 1) ((a, n) :: l) = (.bin (n % 15) (grownP d l).1 (grownP d (l.drop (grownP d l).2)).1, 1 + (grownP d l).2 + (grownP d (l.drop (grownP d l).2)).2) by rw [grownP_succ, if_pos (by omega)])
  have HS := Lib.hid h
  have HIH := Lib.hid IH
  have hll : l.length ≤ 9223372036854775806 := by simp only [List.length_cons] at hl; omega
  have hlf : ∀ s ∈ l, s.1 < 256 ∧ s.2 ≤ 65535 := fun s hs => h.fit s (by simp [hs])
  have hcap := h.cap
  obtain ⟨N, hN⟩ : ∃ N, ((a, n) :: l).length = N := ⟨_, rfl⟩
  have HN := Lib.hid hN
  rw [hN] at hl hcap ⊢
  have hN1 : 1 ≤ N := by simp only [List.length_cons] at hN; omega
  have x1 : (0 : Int) ≤ (a : Int) := by omega
  have x2 : (a : Int) ≤ 255 := by omega
  have x3 : (0 : Int) ≤ (n : Int) := by omega
  have x4 : (n : Int) ≤ 65535 := by omega
  have x5 : (1 : Int) ≤ (N : Int) := by omega
  have x6 : (1 : Int) ≤ D := by omega
  have x7 : ((N : Int) == 0) = false := by simp only [beq_eq_false_iff_ne, ne_eq]; omega
  have x8 : (D == 0) = false := by simp only [beq_eq_false_iff_ne, ne_eq]; omega
  have x9 : D ≤ 9223372036854775807 := by omega
  have ea' : (a : Int) % 9 = 2 := by omega
  have HD := Lib.hid hD
  have HF := Lib.hid hlf
  obtain ⟨A1, hs1, HS1⟩ := seeds_slice h (k := 1) (by simp only [List.length_cons]; omega) 1 rfl
  rw [hN, show (((a, n) :: l).drop 1).length = l.length from rfl] at hs1
  have HS1 := Lib.hid (show Seeds w A1 (c - 1) l from HS1)
  obtain ⟨G1, m1, e1⟩ : ∃ G m, grownP d l = (G, m) := ⟨_, _, rfl⟩
  have z1 := grown_size d l hlf (by omega)
  rw [e1] at HG z1
  obtain ⟨z1, z2⟩ := z1
  simp only at z1 z2 HG
  have C1 := Lib.hid (show ∀ W, Seeds W A1 (c - 1) l → Calls Try.prog 20 #[.slice A1 l.length (c - 1), .int .i64 (D - 1)] W (GrownR W G1 m1) from fun W hW => by
    have := IH l A1 (c - 1) W (by omega) hW (D - 1) (by rw [hD]; omega)
    rw [e1] at this
    exact this)
  have y1 : (0 : Int) ≤ (m1 : Int) := by omega
  have y2 : (m1 : Int) ≤ 63 := by omega
  obtain ⟨A2, hs2, HS2⟩ := seeds_slice h (k := 1 + m1) (by simp only [List.length_cons]; omega) (1 + (m1 : Int)) (by omega)
  have ed : ((a, n) :: l).drop (1 + m1) = l.drop m1 := by rw [Nat.add_comm]; rfl
  rw [hN, ed, List.length_drop] at hs2
  rw [ed] at HS2
  have HS2 := Lib.hid HS2
  obtain ⟨G2, m2, e2⟩ : ∃ G m, grownP d (l.drop m1) = (G, m) := ⟨_, _, rfl⟩
  have z3 := grown_size d (l.drop m1) (fun s hs => hlf s (List.mem_of_mem_drop hs)) (by first | omega | (rw [List.length_drop]; omega))
  rw [e2] at HG z3
  obtain ⟨z3, z4⟩ := z3
  rw [List.length_drop] at z4
  simp only at z3 z4 HG
  have C2 := Lib.hid (show ∀ W, Seeds W A2 (c - (1 + m1)) (l.drop m1) → Calls Try.prog 20 #[.slice A2 (l.length - m1) (c - (1 + m1)), .int .i64 (D - 1)] W (GrownR W G2 m2) from fun W hW => by
    have := IH (l.drop m1) A2 (c - (1 + m1)) W (by first | omega | (rw [List.length_drop]; omega)) hW (D - 1) (by rw [hD]; omega)
    rw [e2, List.length_drop] at this
    exact this)
  have y3 : (0 : Int) ≤ (m2 : Int) := by omega
  have y4 : (m2 : Int) ≤ 63 := by omega
  have ep : (n : Int) % 15 = ((n % 15 : Nat) : Int) := by omega
  have hp := op_size (n % 15) (by omega)
  have ha1 : ((n % 15 : Nat) : Int) < 15 := by omega
  have ha0 : (0 : Int) ≤ ((n % 15 : Nat) : Int) := by omega
  obtain ⟨p, hpp⟩ : ∃ p, n % 15 = p := ⟨_, rfl⟩
  have hp15 : p < 15 := by omega
  rw [hpp] at HG ep hp ha1 ha0
  clear hpp
  clear h IH hN hlf hD hd ea fa fn
  generalize grownP (d + 1) ((a, n) :: l) = gg at *
  go_enter Try.func20, Try.ntmps20
  have KS := Lib.hid (GK.start w a n)
  have D1 := Lib.hid (C1.out _ (HS1.out.below KS.out.bel))
  go_wp2_with fail
  ((with_reducible refine D1.out.mono ?_); rintro e w1 ⟨b1, rfl, hr1, hb1⟩)
  have hw1 := KS.out.lt
  have HR1 := Lib.hid (rep_lo hr1 (B := w.heap.size) (by omega))
  have KS := Lib.hid (KS.out.below hb1)
  clear hr1 hb1 D1 hw1
  have D2 := Lib.hid (C2.out w1 (HS2.out.below KS.out.bel))
  go_wp2_with fail
  ((with_reducible refine D2.out.mono ?_); rintro e w2 ⟨b2, rfl, hr2, hb2⟩)
  have hw1 := KS.out.lt
  have HR1 := Lib.hid (rep_up HR1.out hb2)
  have HR2 := Lib.hid (rep_lo hr2 (B := w.heap.size) (by omega))
  have KS := Lib.hid (KS.out.below hb2)
  clear hr2 hb2 D2 hw1
  have v1 := KS.out.s1
  have v2 := KS.out.ops p hp15
  go_wp2
  go_ret3
  rw [HG.out]
  refine ⟨w2.heap.size + 1, ret3_ (Lx.bytes_ext (by simp [bt_data, Gr.text, ByteArray.data_append, opTx, unT])) (by push_cast; omega), ?_, KS.out.bel.trans ((ha_ (ha_ (Below.refl w2.heap.size w2) _) _).mono KS.out.bel.size)⟩
  show RepS _ _ (.node (mk 11 (0, 0) (opB p) 0 [G1.tree, G2.tree]).1 (mk 11 (0, 0) (opB p) 0 [G1.tree, G2.tree]).2 .no) _
  exact (mk_node (B := w.heap.size) (b := w2.heap.size + 1) (g := w2.heap.size) (vs := [.pointer (some ⟨b1, 0, none⟩), .pointer (some ⟨b2, 0, none⟩)]) rfl (hn_ _ _ _ (by simp [World.size_alloc])) (by have := KS.out.bel.size; omega) (by have := KS.out.bel.size; omega) (ho_ _ (hn_ _ _ _ (by simp [World.size_alloc]))) (rep_two (rep_up HR1.out (ha_ (ha_ (Below.refl w2.heap.size w2) _) _)) (rep_up HR2.out (ha_ (ha_ (Below.refl w2.heap.size w2) _) _))))
set_option maxRecDepth 100000 in
set_option maxHeartbeats 12800000 in
theorem grown_un (d : Nat) (IH : GrownIH d) (a n : Nat) (l : List (Nat × Nat)) (A : Option Addr) (c : Nat) (w : World) (hl : ((a, n) :: l).length ≤ 9223372036854775807) (h : Seeds w A c ((a, n) :: l)) (D : Int) (hD : D = ((d + 1 : Nat) : Int)) (hd : d ≤ 5) (ea : a % 9 = 3) :
    Calls Try.prog 20 #[.slice A ((a, n) :: l).length c, .int .i64 D] w (GrownR w (grownP (d + 1) ((a, n) :: l)).1 (grownP (d + 1) ((a, n) :: l)).2) := by
  obtain ⟨g0, off, rfl, hg0, k0, k1⟩ := h.first
  obtain ⟨fa, fn⟩ := h.fit (a, n) (by simp)
  simp only at fa fn k0 k1
  have HG := Lib.hid (show grownP (d + 1) ((a, n) :: l) = (.un (n % 3) (grownP d l).1, 1 + (grownP d l).2) by rw [grownP_succ, if_neg (by omega), if_pos ea])
  have HS := Lib.hid h
  have HIH := Lib.hid IH
  have hll : l.length ≤ 9223372036854775806 := by simp only [List.length_cons] at hl; omega
  have hlf : ∀ s ∈ l, s.1 < 256 ∧ s.2 ≤ 65535 := fun s hs => h.fit s (by simp [hs])
  have hcap := h.cap
  obtain ⟨N, hN⟩ : ∃ N, ((a, n) :: l).length = N := ⟨_, rfl⟩
  have HN := Lib.hid hN
  rw [hN] at hl hcap ⊢
  have hN1 : 1 ≤ N := by simp only [List.length_cons] at hN; omega
  have x1 : (0 : Int) ≤ (a : Int) := by omega
  have x2 : (a : Int) ≤ 255 := by omega
  have x3 : (0 : Int) ≤ (n : Int) := by omega
  have x4 : (n : Int) ≤ 65535 := by omega
  have x5 : (1 : Int) ≤ (N : Int) := by omega
  have x6 : (1 : Int) ≤ D := by omega
  have x7 : ((N : Int) == 0) = false := by simp only [beq_eq_false_iff_ne, ne_eq]; omega
  have x8 : (D == 0) = false := by simp only [beq_eq_false_iff_ne, ne_eq]; omega
  have x9 : D ≤ 9223372036854775807 := by omega
  have ea' : (a : Int) % 9 = 3 := by omega
  have HD := Lib.hid hD
  have HF := Lib.hid hlf
  obtain ⟨A1, hs1, HS1⟩ := seeds_slice h (k := 1) (by simp only [List.length_cons]; omega) 1 rfl
  rw [hN, show (((a, n) :: l).drop 1).length = l.length from rfl] at hs1
  have HS1 := Lib.hid (show Seeds w A1 (c - 1) l from HS1)
  obtain ⟨G1, m1, e1⟩ : ∃ G m, grownP d l = (G, m) := ⟨_, _, rfl⟩
  have z1 := grown_size d l hlf (by omega)
  rw [e1] at HG z1
  obtain ⟨z1, z2⟩ := z1
  simp only at z1 z2 HG
  have C1 := Lib.hid (show ∀ W, Seeds W A1 (c - 1) l → Calls Try.prog 20 #[.slice A1 l.length (c - 1), .int .i64 (D - 1)] W (GrownR W G1 m1) from fun W hW => by
    have := IH l A1 (c - 1) W (by omega) hW (D - 1) (by rw [hD]; omega)
    rw [e1] at this
    exact this)
  have y1 : (0 : Int) ≤ (m1 : Int) := by omega
  have y2 : (m1 : Int) ≤ 63 := by omega
  have ep : (n : Int) % 3 = ((n % 3 : Nat) : Int) := by omega
  have hun := un_at (n % 3) (by omega)
  have hp : (unB (n % 3)).size ≤ 3 := by
    have : ∀ q, q < 3 → (unB q).size ≤ 3 := by decide
    exact this _ (by omega)
  have ha1 : ((n % 3 : Nat) : Int) < 3 := by omega
  have ha0 : (0 : Int) ≤ ((n % 3 : Nat) : Int) := by omega
  generalize n % 3 = p at *
  clear h IH hN hlf hD hd ea fa fn
  generalize grownP (d + 1) ((a, n) :: l) = gg at *
  go_enter Try.func20, Try.ntmps20
  have KS := Lib.hid (GK.start w a n)
  have D1 := Lib.hid (C1.out _ (HS1.out.below KS.out.bel))
  go_wp2_with fail
  ((with_reducible refine D1.out.mono ?_); rintro e w1 ⟨b1, rfl, hr1, hb1⟩)
  have hw1 := KS.out.lt
  have HR1 := Lib.hid (rep_lo hr1 (B := w.heap.size) (by omega))
  have KS := Lib.hid (KS.out.below hb1)
  clear hr1 hb1 D1 hw1
  have v1 := KS.out.s1
  have hw1 := KS.out.lt
  have hw2 : w.heap.size < w1.heap.size := by omega
  go_wp2
  go_ret3
  rw [HG.out]
  refine ⟨w1.heap.size + 1 + 1, ret3_ (Lx.bytes_ext (by simp [bt_data, Gr.text, ByteArray.data_append, opTx, unT])) (by push_cast; omega), ?_, KS.out.bel.trans ((ha_ (ha_ (ha_ (Below.refl w1.heap.size w1) _) _) _).mono KS.out.bel.size)⟩
  show RepS _ _ (.node (mk 12 (0, 0) (unB p) 0 [G1.tree]).1 (mk 12 (0, 0) (unB p) 0 [G1.tree]).2 .no) _
  exact (mk_node (B := w.heap.size) (b := w1.heap.size + 1 + 1) (g := w1.heap.size + 1) (vs := [.pointer (some ⟨b1, 0, none⟩)]) rfl (hn_ _ _ _ (by simp [World.size_alloc])) (by have := KS.out.bel.size; omega) (by have := KS.out.bel.size; omega) (ho_ _ (hn_ _ _ _ (by simp [World.size_alloc]))) (rep_up HR1.out (ha_ (ha_ (ha_ (Below.refl w1.heap.size w1) _) _) _)))
set_option maxRecDepth 100000 in
set_option maxHeartbeats 12800000 in
theorem grown_idx (d : Nat) (IH : GrownIH d) (a n : Nat) (l : List (Nat × Nat)) (A : Option Addr) (c : Nat) (w : World) (hl : ((a, n) :: l).length ≤ 9223372036854775807) (h : Seeds w A c ((a, n) :: l)) (D : Int) (hD : D = ((d + 1 : Nat) : Int)) (hd : d ≤ 5) (ea : a % 9 = 5) :
    Calls Try.prog 20 #[.slice A ((a, n) :: l).length c, .int .i64 D] w (GrownR w (grownP (d + 1) ((a, n) :: l)).1 (grownP (d + 1) ((a, n) :: l)).2) := by
  obtain ⟨g0, off, rfl, hg0, k0, k1⟩ := h.first
  obtain ⟨fa, fn⟩ := h.fit (a, n) (by simp)
  simp only at fa fn k0 k1
  have HG := Lib.hid (show grownP (d + 1) ((a, n) :: l) = (.idx (grownP d l).1, 1 + (grownP d l).2) by rw [grownP_succ, if_neg (by omega), if_neg (by omega), if_neg (by omega), if_pos ea])
  have HS := Lib.hid h
  have HIH := Lib.hid IH
  have hll : l.length ≤ 9223372036854775806 := by simp only [List.length_cons] at hl; omega
  have hlf : ∀ s ∈ l, s.1 < 256 ∧ s.2 ≤ 65535 := fun s hs => h.fit s (by simp [hs])
  have hcap := h.cap
  obtain ⟨N, hN⟩ : ∃ N, ((a, n) :: l).length = N := ⟨_, rfl⟩
  have HN := Lib.hid hN
  rw [hN] at hl hcap ⊢
  have hN1 : 1 ≤ N := by simp only [List.length_cons] at hN; omega
  have x1 : (0 : Int) ≤ (a : Int) := by omega
  have x2 : (a : Int) ≤ 255 := by omega
  have x3 : (0 : Int) ≤ (n : Int) := by omega
  have x4 : (n : Int) ≤ 65535 := by omega
  have x5 : (1 : Int) ≤ (N : Int) := by omega
  have x6 : (1 : Int) ≤ D := by omega
  have x7 : ((N : Int) == 0) = false := by simp only [beq_eq_false_iff_ne, ne_eq]; omega
  have x8 : (D == 0) = false := by simp only [beq_eq_false_iff_ne, ne_eq]; omega
  have x9 : D ≤ 9223372036854775807 := by omega
  have ea' : (a : Int) % 9 = 5 := by omega
  have HD := Lib.hid hD
  have HF := Lib.hid hlf
  obtain ⟨A1, hs1, HS1⟩ := seeds_slice h (k := 1) (by simp only [List.length_cons]; omega) 1 rfl
  rw [hN, show (((a, n) :: l).drop 1).length = l.length from rfl] at hs1
  have HS1 := Lib.hid (show Seeds w A1 (c - 1) l from HS1)
  obtain ⟨G1, m1, e1⟩ : ∃ G m, grownP d l = (G, m) := ⟨_, _, rfl⟩
  have z1 := grown_size d l hlf (by omega)
  rw [e1] at HG z1
  obtain ⟨z1, z2⟩ := z1
  simp only at z1 z2 HG
  have C1 := Lib.hid (show ∀ W, Seeds W A1 (c - 1) l → Calls Try.prog 20 #[.slice A1 l.length (c - 1), .int .i64 (D - 1)] W (GrownR W G1 m1) from fun W hW => by
    have := IH l A1 (c - 1) W (by omega) hW (D - 1) (by rw [hD]; omega)
    rw [e1] at this
    exact this)
  have y1 : (0 : Int) ≤ (m1 : Int) := by omega
  have y2 : (m1 : Int) ≤ 63 := by omega
  clear h IH hN hlf hD hd ea fa fn
  generalize grownP (d + 1) ((a, n) :: l) = gg at *
  go_enter Try.func20, Try.ntmps20
  have KS := Lib.hid (GK.start w a n)
  have D1 := Lib.hid (C1.out _ (HS1.out.below KS.out.bel))
  go_wp2_with fail
  ((with_reducible refine D1.out.mono ?_); rintro e w1 ⟨b1, rfl, hr1, hb1⟩)
  have hw1 := KS.out.lt
  have HR1 := Lib.hid (rep_lo hr1 (B := w.heap.size) (by omega))
  have KS := Lib.hid (KS.out.below hb1)
  clear hr1 hb1 D1 hw1
  go_wp2
  go_ret3
  rw [HG.out]
  refine ⟨w1.heap.size + 1 + 1 + 1 + 1 + 1 + 1, ret3_ (Lx.bytes_ext (by simp [bt_data, Gr.text, ByteArray.data_append, opTx, unT])) (by push_cast; omega), ?_, KS.out.bel.trans ((ha_ (ha_ (ha_ (ha_ (ha_ (ha_ (ha_ (Below.refl w1.heap.size w1) _) _) _) _) _) _) _).mono KS.out.bel.size)⟩
  show RepS _ _ (.node (mk 2 (0, 0) ⟨#[102]⟩ 0 [mk 4 (0, 0) sNil 0 [mk 3 (0, 0) sNil 0 [nm 118, G1.tree]]]).1 (mk 2 (0, 0) ⟨#[102]⟩ 0 [mk 4 (0, 0) sNil 0 [mk 3 (0, 0) sNil 0 [nm 118, G1.tree]]]).2 .no) _
  exact (mk_node (B := w.heap.size) (b := w1.heap.size + 1 + 1 + 1 + 1 + 1 + 1) (g := w1.heap.size + 1 + 1 + 1 + 1 + 1) (vs := [.pointer (some ⟨w1.heap.size + 1 + 1 + 1 + 1, 0, none⟩)]) rfl (hn_ _ _ _ (by simp [World.size_alloc])) (by have := KS.out.bel.size; omega) (by have := KS.out.bel.size; omega) (ho_ _ (hn_ _ _ _ (by simp [World.size_alloc]))) (rep_one (mk_node (B := w.heap.size) (b := w1.heap.size + 1 + 1 + 1 + 1) (g := w1.heap.size + 1 + 1 + 1) (vs := [.pointer (some ⟨w1.heap.size + 1 + 1, 0, none⟩)]) rfl (ho_ _ (ho_ _ (hn_ _ _ _ (by simp [World.size_alloc])))) (by have := KS.out.bel.size; omega) (by have := KS.out.bel.size; omega) (ho_ _ (ho_ _ (ho_ _ (hn_ _ _ _ (by simp [World.size_alloc]))))) (rep_one (mk_node (B := w.heap.size) (b := w1.heap.size + 1 + 1) (g := w1.heap.size + 1) (vs := [.pointer (some ⟨w1.heap.size, 0, none⟩), .pointer (some ⟨b1, 0, none⟩)]) rfl (ho_ _ (ho_ _ (ho_ _ (ho_ _ (hn_ _ _ _ (by simp [World.size_alloc])))))) (by have := KS.out.bel.size; omega) (by have := KS.out.bel.size; omega) (ho_ _ (ho_ _ (ho_ _ (ho_ _ (ho_ _ (hn_ _ _ _ (by simp [World.size_alloc]))))))) (rep_two (mk_leaf (B := w.heap.size) (b := w1.heap.size) (ho_ _ (ho_ _ (ho_ _ (ho_ _ (ho_ _ (ho_ _ (hn_ _ _ _ (by simp [World.size_alloc])))))))) (by have := KS.out.bel.size; omega)) (rep_up HR1.out (ha_ (ha_ (ha_ (ha_ (ha_ (ha_ (ha_ (Below.refl w1.heap.size w1) _) _) _) _) _) _) _))))))))
set_option maxRecDepth 100000 in
set_option maxHeartbeats 12800000 in
theorem grown_call (d : Nat) (IH : GrownIH d) (a n : Nat) (l : List (Nat × Nat)) (A : Option Addr) (c : Nat) (w : World) (hl : ((a, n) :: l).length ≤ 9223372036854775807) (h : Seeds w A c ((a, n) :: l)) (D : Int) (hD : D = ((d + 1 : Nat) : Int)) (hd : d ≤ 5) (ea : a % 9 = 6) :
    Calls Try.prog 20 #[.slice A ((a, n) :: l).length c, .int .i64 D] w (GrownR w (grownP (d + 1) ((a, n) :: l)).1 (grownP (d + 1) ((a, n) :: l)).2) := by
  obtain ⟨g0, off, rfl, hg0, k0, k1⟩ := h.first
  obtain ⟨fa, fn⟩ := h.fit (a, n) (by simp)
  simp only at fa fn k0 k1
  have HG := Lib.hid (show grownP (d + 1) ((a, n) :: l) = (.call (grownP d l).1 (grownP d (l.drop (grownP d l).2)).1, 1 + (grownP d l).2 + (grownP d (l.drop (grownP d l).2)).2) by rw [grownP_succ, if_neg (by omega), if_neg (by omega), if_neg (by omega), if_neg (by omega), if_pos ea])
  have HS := Lib.hid h
  have HIH := Lib.hid IH
  have hll : l.length ≤ 9223372036854775806 := by simp only [List.length_cons] at hl; omega
  have hlf : ∀ s ∈ l, s.1 < 256 ∧ s.2 ≤ 65535 := fun s hs => h.fit s (by simp [hs])
  have hcap := h.cap
  obtain ⟨N, hN⟩ : ∃ N, ((a, n) :: l).length = N := ⟨_, rfl⟩
  have HN := Lib.hid hN
  rw [hN] at hl hcap ⊢
  have hN1 : 1 ≤ N := by simp only [List.length_cons] at hN; omega
  have x1 : (0 : Int) ≤ (a : Int) := by omega
  have x2 : (a : Int) ≤ 255 := by omega
  have x3 : (0 : Int) ≤ (n : Int) := by omega
  have x4 : (n : Int) ≤ 65535 := by omega
  have x5 : (1 : Int) ≤ (N : Int) := by omega
  have x6 : (1 : Int) ≤ D := by omega
  have x7 : ((N : Int) == 0) = false := by simp only [beq_eq_false_iff_ne, ne_eq]; omega
  have x8 : (D == 0) = false := by simp only [beq_eq_false_iff_ne, ne_eq]; omega
  have x9 : D ≤ 9223372036854775807 := by omega
  have ea' : (a : Int) % 9 = 6 := by omega
  have HD := Lib.hid hD
  have HF := Lib.hid hlf
  obtain ⟨A1, hs1, HS1⟩ := seeds_slice h (k := 1) (by simp only [List.length_cons]; omega) 1 rfl
  rw [hN, show (((a, n) :: l).drop 1).length = l.length from rfl] at hs1
  have HS1 := Lib.hid (show Seeds w A1 (c - 1) l from HS1)
  obtain ⟨G1, m1, e1⟩ : ∃ G m, grownP d l = (G, m) := ⟨_, _, rfl⟩
  have z1 := grown_size d l hlf (by omega)
  rw [e1] at HG z1
  obtain ⟨z1, z2⟩ := z1
  simp only at z1 z2 HG
  have C1 := Lib.hid (show ∀ W, Seeds W A1 (c - 1) l → Calls Try.prog 20 #[.slice A1 l.length (c - 1), .int .i64 (D - 1)] W (GrownR W G1 m1) from fun W hW => by
    have := IH l A1 (c - 1) W (by omega) hW (D - 1) (by rw [hD]; omega)
    rw [e1] at this
    exact this)
  have y1 : (0 : Int) ≤ (m1 : Int) := by omega
  have y2 : (m1 : Int) ≤ 63 := by omega
  obtain ⟨A2, hs2, HS2⟩ := seeds_slice h (k := 1 + m1) (by simp only [List.length_cons]; omega) (1 + (m1 : Int)) (by omega)
  have ed : ((a, n) :: l).drop (1 + m1) = l.drop m1 := by rw [Nat.add_comm]; rfl
  rw [hN, ed, List.length_drop] at hs2
  rw [ed] at HS2
  have HS2 := Lib.hid HS2
  obtain ⟨G2, m2, e2⟩ : ∃ G m, grownP d (l.drop m1) = (G, m) := ⟨_, _, rfl⟩
  have z3 := grown_size d (l.drop m1) (fun s hs => hlf s (List.mem_of_mem_drop hs)) (by first | omega | (rw [List.length_drop]; omega))
  rw [e2] at HG z3
  obtain ⟨z3, z4⟩ := z3
  rw [List.length_drop] at z4
  simp only at z3 z4 HG
  have C2 := Lib.hid (show ∀ W, Seeds W A2 (c - (1 + m1)) (l.drop m1) → Calls Try.prog 20 #[.slice A2 (l.length - m1) (c - (1 + m1)), .int .i64 (D - 1)] W (GrownR W G2 m2) from fun W hW => by
    have := IH (l.drop m1) A2 (c - (1 + m1)) W (by first | omega | (rw [List.length_drop]; omega)) hW (D - 1) (by rw [hD]; omega)
    rw [e2, List.length_drop] at this
    exact this)
  have y3 : (0 : Int) ≤ (m2 : Int) := by omega
  have y4 : (m2 : Int) ≤ 63 := by omega
  clear h IH hN hlf hD hd ea fa fn
  generalize grownP (d + 1) ((a, n) :: l) = gg at *
  go_enter Try.func20, Try.ntmps20
  have KS := Lib.hid (GK.start w a n)
  have D1 := Lib.hid (C1.out _ (HS1.out.below KS.out.bel))
  go_wp2_with fail
  ((with_reducible refine D1.out.mono ?_); rintro e w1 ⟨b1, rfl, hr1, hb1⟩)
  have hw1 := KS.out.lt
  have HR1 := Lib.hid (rep_lo hr1 (B := w.heap.size) (by omega))
  have KS := Lib.hid (KS.out.below hb1)
  clear hr1 hb1 D1 hw1
  have D2 := Lib.hid (C2.out w1 (HS2.out.below KS.out.bel))
  go_wp2_with fail
  ((with_reducible refine D2.out.mono ?_); rintro e w2 ⟨b2, rfl, hr2, hb2⟩)
  have hw1 := KS.out.lt
  have HR1 := Lib.hid (rep_up HR1.out hb2)
  have HR2 := Lib.hid (rep_lo hr2 (B := w.heap.size) (by omega))
  have KS := Lib.hid (KS.out.below hb2)
  clear hr2 hb2 D2 hw1
  go_wp2
  go_ret3
  rw [HG.out]
  refine ⟨w2.heap.size + 1 + 1, ret3_ (Lx.bytes_ext (by simp [bt_data, Gr.text, ByteArray.data_append, opTx, unT])) (by push_cast; omega), ?_, KS.out.bel.trans ((ha_ (ha_ (ha_ (Below.refl w2.heap.size w2) _) _) _).mono KS.out.bel.size)⟩
  show RepS _ _ (.node (mk 10 (0, 0) sNil 0 [nm 103, G1.tree, G2.tree]).1 (mk 10 (0, 0) sNil 0 [nm 103, G1.tree, G2.tree]).2 .no) _
  exact (mk_node (B := w.heap.size) (b := w2.heap.size + 1 + 1) (g := w2.heap.size + 1) (vs := [.pointer (some ⟨w2.heap.size, 0, none⟩), .pointer (some ⟨b1, 0, none⟩), .pointer (some ⟨b2, 0, none⟩)]) rfl (hn_ _ _ _ (by simp [World.size_alloc])) (by have := KS.out.bel.size; omega) (by have := KS.out.bel.size; omega) (ho_ _ (hn_ _ _ _ (by simp [World.size_alloc]))) (rep_three (mk_leaf (B := w.heap.size) (b := w2.heap.size) (ho_ _ (ho_ _ (hn_ _ _ _ (by simp [World.size_alloc])))) (by have := KS.out.bel.size; omega)) (rep_up HR1.out (ha_ (ha_ (ha_ (Below.refl w2.heap.size w2) _) _) _)) (rep_up HR2.out (ha_ (ha_ (ha_ (Below.refl w2.heap.size w2) _) _) _))))
set_option maxRecDepth 100000 in
set_option maxHeartbeats 12800000 in
theorem grown_rng (d : Nat) (IH : GrownIH d) (a n : Nat) (l : List (Nat × Nat)) (A : Option Addr) (c : Nat) (w : World) (hl : ((a, n) :: l).length ≤ 9223372036854775807) (h : Seeds w A c ((a, n) :: l)) (D : Int) (hD : D = ((d + 1 : Nat) : Int)) (hd : d ≤ 5) (ea : a % 9 = 7) :
    Calls Try.prog 20 #[.slice A ((a, n) :: l).length c, .int .i64 D] w (GrownR w (grownP (d + 1) ((a, n) :: l)).1 (grownP (d + 1) ((a, n) :: l)).2) := by
  obtain ⟨g0, off, rfl, hg0, k0, k1⟩ := h.first
  obtain ⟨fa, fn⟩ := h.fit (a, n) (by simp)
  simp only at fa fn k0 k1
  have HG := Lib.hid (show grownP (d + 1) ((a, n) :: l) = (.rng (grownP d l).1 (grownP d (l.drop (grownP d l).2)).1, 1 + (grownP d l).2 + (grownP d (l.drop (grownP d l).2)).2) by rw [grownP_succ, if_neg (by omega), if_neg (by omega), if_neg (by omega), if_neg (by omega), if_neg (by omega), if_pos ea])
  have HS := Lib.hid h
  have HIH := Lib.hid IH
  have hll : l.length ≤ 9223372036854775806 := by simp only [List.length_cons] at hl; omega
  have hlf : ∀ s ∈ l, s.1 < 256 ∧ s.2 ≤ 65535 := fun s hs => h.fit s (by simp [hs])
  have hcap := h.cap
  obtain ⟨N, hN⟩ : ∃ N, ((a, n) :: l).length = N := ⟨_, rfl⟩
  have HN := Lib.hid hN
  rw [hN] at hl hcap ⊢
  have hN1 : 1 ≤ N := by simp only [List.length_cons] at hN; omega
  have x1 : (0 : Int) ≤ (a : Int) := by omega
  have x2 : (a : Int) ≤ 255 := by omega
  have x3 : (0 : Int) ≤ (n : Int) := by omega
  have x4 : (n : Int) ≤ 65535 := by omega
  have x5 : (1 : Int) ≤ (N : Int) := by omega
  have x6 : (1 : Int) ≤ D := by omega
  have x7 : ((N : Int) == 0) = false := by simp only [beq_eq_false_iff_ne, ne_eq]; omega
  have x8 : (D == 0) = false := by simp only [beq_eq_false_iff_ne, ne_eq]; omega
  have x9 : D ≤ 9223372036854775807 := by omega
  have ea' : (a : Int) % 9 = 7 := by omega
  have HD := Lib.hid hD
  have HF := Lib.hid hlf
  obtain ⟨A1, hs1, HS1⟩ := seeds_slice h (k := 1) (by simp only [List.length_cons]; omega) 1 rfl
  rw [hN, show (((a, n) :: l).drop 1).length = l.length from rfl] at hs1
  have HS1 := Lib.hid (show Seeds w A1 (c - 1) l from HS1)
  obtain ⟨G1, m1, e1⟩ : ∃ G m, grownP d l = (G, m) := ⟨_, _, rfl⟩
  have z1 := grown_size d l hlf (by omega)
  rw [e1] at HG z1
  obtain ⟨z1, z2⟩ := z1
  simp only at z1 z2 HG
  have C1 := Lib.hid (show ∀ W, Seeds W A1 (c - 1) l → Calls Try.prog 20 #[.slice A1 l.length (c - 1), .int .i64 (D - 1)] W (GrownR W G1 m1) from fun W hW => by
    have := IH l A1 (c - 1) W (by omega) hW (D - 1) (by rw [hD]; omega)
    rw [e1] at this
    exact this)
  have y1 : (0 : Int) ≤ (m1 : Int) := by omega
  have y2 : (m1 : Int) ≤ 63 := by omega
  obtain ⟨A2, hs2, HS2⟩ := seeds_slice h (k := 1 + m1) (by simp only [List.length_cons]; omega) (1 + (m1 : Int)) (by omega)
  have ed : ((a, n) :: l).drop (1 + m1) = l.drop m1 := by rw [Nat.add_comm]; rfl
  rw [hN, ed, List.length_drop] at hs2
  rw [ed] at HS2
  have HS2 := Lib.hid HS2
  obtain ⟨G2, m2, e2⟩ : ∃ G m, grownP d (l.drop m1) = (G, m) := ⟨_, _, rfl⟩
  have z3 := grown_size d (l.drop m1) (fun s hs => hlf s (List.mem_of_mem_drop hs)) (by first | omega | (rw [List.length_drop]; omega))
  rw [e2] at HG z3
  obtain ⟨z3, z4⟩ := z3
  rw [List.length_drop] at z4
  simp only at z3 z4 HG
  have C2 := Lib.hid (show ∀ W, Seeds W A2 (c - (1 + m1)) (l.drop m1) → Calls Try.prog 20 #[.slice A2 (l.length - m1) (c - (1 + m1)), .int .i64 (D - 1)] W (GrownR W G2 m2) from fun W hW => by
    have := IH (l.drop m1) A2 (c - (1 + m1)) W (by first | omega | (rw [List.length_drop]; omega)) hW (D - 1) (by rw [hD]; omega)
    rw [e2, List.length_drop] at this
    exact this)
  have y3 : (0 : Int) ≤ (m2 : Int) := by omega
  have y4 : (m2 : Int) ≤ 63 := by omega
  clear h IH hN hlf hD hd ea fa fn
  generalize grownP (d + 1) ((a, n) :: l) = gg at *
  go_enter Try.func20, Try.ntmps20
  have KS := Lib.hid (GK.start w a n)
  have D1 := Lib.hid (C1.out _ (HS1.out.below KS.out.bel))
  go_wp2_with fail
  ((with_reducible refine D1.out.mono ?_); rintro e w1 ⟨b1, rfl, hr1, hb1⟩)
  have hw1 := KS.out.lt
  have HR1 := Lib.hid (rep_lo hr1 (B := w.heap.size) (by omega))
  have KS := Lib.hid (KS.out.below hb1)
  clear hr1 hb1 D1 hw1
  have D2 := Lib.hid (C2.out w1 (HS2.out.below KS.out.bel))
  go_wp2_with fail
  ((with_reducible refine D2.out.mono ?_); rintro e w2 ⟨b2, rfl, hr2, hb2⟩)
  have hw1 := KS.out.lt
  have HR1 := Lib.hid (rep_up HR1.out hb2)
  have HR2 := Lib.hid (rep_lo hr2 (B := w.heap.size) (by omega))
  have KS := Lib.hid (KS.out.below hb2)
  clear hr2 hb2 D2 hw1
  go_wp2
  go_ret3
  rw [HG.out]
  refine ⟨w2.heap.size + 1 + 1 + 1 + 1, ret3_ (Lx.bytes_ext (by simp [bt_data, Gr.text, ByteArray.data_append, opTx, unT])) (by push_cast; omega), ?_, KS.out.bel.trans ((ha_ (ha_ (ha_ (ha_ (ha_ (Below.refl w2.heap.size w2) _) _) _) _) _).mono KS.out.bel.size)⟩
  show RepS _ _ (.node (mk 8 (0, 0) sNil 0 [nm 83, mk 9 (0, 0) sNil 0 [G1.tree, G2.tree]]).1 (mk 8 (0, 0) sNil 0 [nm 83, mk 9 (0, 0) sNil 0 [G1.tree, G2.tree]]).2 .no) _
  exact (mk_node (B := w.heap.size) (b := w2.heap.size + 1 + 1 + 1 + 1) (g := w2.heap.size + 1 + 1 + 1) (vs := [.pointer (some ⟨w2.heap.size + 1 + 1, 0, none⟩), .pointer (some ⟨w2.heap.size + 1, 0, none⟩)]) rfl (hn_ _ _ _ (by simp [World.size_alloc])) (by have := KS.out.bel.size; omega) (by have := KS.out.bel.size; omega) (ho_ _ (hn_ _ _ _ (by simp [World.size_alloc]))) (rep_two (mk_leaf (B := w.heap.size) (b := w2.heap.size + 1 + 1) (ho_ _ (ho_ _ (hn_ _ _ _ (by simp [World.size_alloc])))) (by have := KS.out.bel.size; omega)) (mk_node (B := w.heap.size) (b := w2.heap.size + 1) (g := w2.heap.size) (vs := [.pointer (some ⟨b1, 0, none⟩), .pointer (some ⟨b2, 0, none⟩)]) rfl (ho_ _ (ho_ _ (ho_ _ (hn_ _ _ _ (by simp [World.size_alloc]))))) (by have := KS.out.bel.size; omega) (by have := KS.out.bel.size; omega) (ho_ _ (ho_ _ (ho_ _ (ho_ _ (hn_ _ _ _ (by simp [World.size_alloc])))))) (rep_two (rep_up HR1.out (ha_ (ha_ (ha_ (ha_ (ha_ (Below.refl w2.heap.size w2) _) _) _) _) _)) (rep_up HR2.out (ha_ (ha_ (ha_ (ha_ (ha_ (Below.refl w2.heap.size w2) _) _) _) _) _))))))
set_option maxRecDepth 100000 in
set_option maxHeartbeats 12800000 in
theorem grown_str (d : Nat) (IH : GrownIH d) (a n : Nat) (l : List (Nat × Nat)) (A : Option Addr) (c : Nat) (w : World) (hl : ((a, n) :: l).length ≤ 9223372036854775807) (h : Seeds w A c ((a, n) :: l)) (D : Int) (hD : D = ((d + 1 : Nat) : Int)) (hd : d ≤ 5) (ea : a % 9 = 8) :
    Calls Try.prog 20 #[.slice A ((a, n) :: l).length c, .int .i64 D] w (GrownR w (grownP (d + 1) ((a, n) :: l)).1 (grownP (d + 1) ((a, n) :: l)).2) := by
  obtain ⟨g0, off, rfl, hg0, k0, k1⟩ := h.first
  obtain ⟨fa, fn⟩ := h.fit (a, n) (by simp)
  simp only at fa fn k0 k1
  have HG := Lib.hid (show grownP (d + 1) ((a, n) :: l) = (.str, 1) by rw [grownP_succ, if_neg (by omega), if_neg (by omega), if_neg (by omega), if_neg (by omega), if_neg (by omega), if_neg (by omega)])
  have HS := Lib.hid h
  have HIH := Lib.hid IH
  have hll : l.length ≤ 9223372036854775806 := by simp only [List.length_cons] at hl; omega
  have hlf : ∀ s ∈ l, s.1 < 256 ∧ s.2 ≤ 65535 := fun s hs => h.fit s (by simp [hs])
  have hcap := h.cap
  obtain ⟨N, hN⟩ : ∃ N, ((a, n) :: l).length = N := ⟨_, rfl⟩
  have HN := Lib.hid hN
  rw [hN] at hl hcap ⊢
  have hN1 : 1 ≤ N := by simp only [List.length_cons] at hN; omega
  have x1 : (0 : Int) ≤ (a : Int) := by omega
  have x2 : (a : Int) ≤ 255 := by omega
  have x3 : (0 : Int) ≤ (n : Int) := by omega
  have x4 : (n : Int) ≤ 65535 := by omega
  have x5 : (1 : Int) ≤ (N : Int) := by omega
  have x6 : (1 : Int) ≤ D := by omega
  have x7 : ((N : Int) == 0) = false := by simp only [beq_eq_false_iff_ne, ne_eq]; omega
  have x8 : (D == 0) = false := by simp only [beq_eq_false_iff_ne, ne_eq]; omega
  have x9 : D ≤ 9223372036854775807 := by omega
  have ea' : (a : Int) % 9 = 8 := by omega
  have HD := Lib.hid hD
  have HF := Lib.hid hlf
  obtain ⟨A1, hs1, HS1⟩ := seeds_slice h (k := 1) (by simp only [List.length_cons]; omega) 1 rfl
  rw [hN, show (((a, n) :: l).drop 1).length = l.length from rfl] at hs1
  have HS1 := Lib.hid (show Seeds w A1 (c - 1) l from HS1)
  clear h IH hN hlf hD hd ea fa fn
  generalize grownP (d + 1) ((a, n) :: l) = gg at *
  go_enter Try.func20, Try.ntmps20
  go_wp2
  go_ret3
  rw [HG.out]
  refine ⟨w.heap.size + 1 + 1, ret3_ (by rfl) (by rfl), ?_, (ha_ (ha_ (ha_ (Below.refl w.heap.size w) _) _) _)⟩
  show RepS _ _ (.node (mk 7 (0, 0) ⟨#[113]⟩ 0 []).1 (mk 7 (0, 0) ⟨#[113]⟩ 0 []).2 .no) _
  exact (mk_leaf (B := w.heap.size) (b := w.heap.size + 1 + 1) (hn_ _ _ _ (by simp [World.size_alloc])) (by omega))
set_option maxRecDepth 100000 in
set_option maxHeartbeats 12800000 in
theorem grown_num (d : Nat) (IH : GrownIH d) (a n : Nat) (l : List (Nat × Nat)) (A : Option Addr) (c : Nat) (w : World) (hl : ((a, n) :: l).length ≤ 9223372036854775807) (h : Seeds w A c ((a, n) :: l)) (D : Int) (hD : D = ((d + 1 : Nat) : Int)) (hd : d ≤ 5) (ea : a % 9 = 4) :
    Calls Try.prog 20 #[.slice A ((a, n) :: l).length c, .int .i64 D] w (GrownR w (grownP (d + 1) ((a, n) :: l)).1 (grownP (d + 1) ((a, n) :: l)).2) := by
  obtain ⟨g0, off, rfl, hg0, k0, k1⟩ := h.first
  obtain ⟨fa, fn⟩ := h.fit (a, n) (by simp)
  simp only at fa fn k0 k1
  have HG := Lib.hid (show grownP (d + 1) ((a, n) :: l) = (.num n, 1) by rw [grownP_succ, if_neg (by omega), if_neg (by omega), if_pos ea])
  have HS := Lib.hid h
  have HIH := Lib.hid IH
  have hll : l.length ≤ 9223372036854775806 := by simp only [List.length_cons] at hl; omega
  have hlf : ∀ s ∈ l, s.1 < 256 ∧ s.2 ≤ 65535 := fun s hs => h.fit s (by simp [hs])
  have hcap := h.cap
  obtain ⟨N, hN⟩ : ∃ N, ((a, n) :: l).length = N := ⟨_, rfl⟩
  have HN := Lib.hid hN
  rw [hN] at hl hcap ⊢
  have hN1 : 1 ≤ N := by simp only [List.length_cons] at hN; omega
  have x1 : (0 : Int) ≤ (a : Int) := by omega
  have x2 : (a : Int) ≤ 255 := by omega
  have x3 : (0 : Int) ≤ (n : Int) := by omega
  have x4 : (n : Int) ≤ 65535 := by omega
  have x5 : (1 : Int) ≤ (N : Int) := by omega
  have x6 : (1 : Int) ≤ D := by omega
  have x7 : ((N : Int) == 0) = false := by simp only [beq_eq_false_iff_ne, ne_eq]; omega
  have x8 : (D == 0) = false := by simp only [beq_eq_false_iff_ne, ne_eq]; omega
  have x9 : D ≤ 9223372036854775807 := by omega
  have ea' : (a : Int) % 9 = 4 := by omega
  have HD := Lib.hid hD
  have HF := Lib.hid hlf
  obtain ⟨A1, hs1, HS1⟩ := seeds_slice h (k := 1) (by simp only [List.length_cons]; omega) 1 rfl
  rw [hN, show (((a, n) :: l).drop 1).length = l.length from rfl] at hs1
  have HS1 := Lib.hid (show Seeds w A1 (c - 1) l from HS1)
  have NB := Lib.hid (number_any n fn)
  clear h IH hN hlf hD hd ea fa fn
  generalize grownP (d + 1) ((a, n) :: l) = gg at *
  go_enter Try.func20, Try.ntmps20
  have KS := Lib.hid (GK.start w a n)
  generalize hW : (w.alloc (.cells #[.int .u8 a, .int .u16 n] 80)).alloc (.cells opsV 9) = W at KS
  have HW := Lib.hid hW
  clear hW
  go_wp2
  rw [show (w.alloc (.cells #[.int .u8 a, .int .u16 n] 80)).alloc (.cells opsV 9) = W from HW.out]
  have v1 : W.cell? ⟨w.heap.size, 1, none⟩ = some (.int .u16 n) := KS.out.s1
  have hwr : IntKind.i64.wrap (n : Int) = (n : Int) := IntWalk.i64_in _ (by omega)
  have hw1 := KS.out.lt
  have hw2 : w.heap.size < W.heap.size := by omega
  have hw3 : w.heap.size < W.drew.heap.size := hw2
  go_region_law (first
    | (go_simp; go_at_call 44; (with_reducible refine (NB.out _).mono ?_); rintro e x ⟨rfl, hb⟩; have v2 : x.cell? ⟨w.heap.size, 1, none⟩ = some (.int .u16 n) := (hb.cell (p := ⟨w.heap.size, 1, none⟩) (by first | exact hw2 | exact Nat.lt_of_lt_of_le hw2 (Nat.le_of_lt (by show W.heap.size < (W.alloc _).heap.size; rw [World.size_alloc]; exact Nat.lt_succ_self _)))).trans (by first | exact v1 | exact (World.cell?_alloc_lt W _ ⟨w.heap.size, 1, none⟩ hw2).trans v1)))
  all_goals
    clear v1 v2
    go_wp2
    go_ret3
    rw [HG.out]
    show GrownR w (.num n) 1 _ _
    first
      | exact ⟨W.heap.size, ret3_ (by rfl) (by rfl), mk_leaf (B := w.heap.size) (num_a KS.out.bel hb).2 (by have := KS.out.bel.size; omega), (num_a KS.out.bel hb).1⟩
      | exact ⟨x.heap.size, ret3_ (by rfl) (by rfl), mk_leaf (B := w.heap.size) (num_b _ KS.out.bel hb).2 (by have := KS.out.bel.size; have h2 := hb.size; exact Nat.le_trans this h2), (num_b _ KS.out.bel hb).1⟩
end Go.Proofs.Ytecmjhohniipoaa.Ex

end

section
namespace Go.Proofs.Ytecmjhohniipoaa.St
open Go.RowKit
open Tr (Nd Fo RepS RepN Rep cellsN)
open Lx (Tk noTk run_store_complexL bt)
open Fl
open Ex
attribute [local go_sem] run_store_complexL run_field1 run_field3
theorem grown_any : ∀ d, d ≤ 6 → Ex.GrownIH d := by
  intro d
  induction d with
  | zero =>
    intro _ l A c w _ h D hD
    exact grown_z 0 l A c w D (.inr hD) rfl
  | succ d ih =>
    intro hd l A c w _ h D hD
    have IH := ih (by omega)
    rcases l with _ | ⟨⟨a, n⟩, l⟩
    · exact grown_z (d + 1) [] A c w D (.inl rfl) rfl
    · obtain e | e | e | e | e | e | e | e | e : a % 9 = 0 ∨ a % 9 = 1 ∨ a % 9 = 2 ∨ a % 9 = 3 ∨ a % 9 = 4 ∨ a % 9 = 5 ∨ a % 9 = 6 ∨ a % 9 = 7 ∨ a % 9 = 8 := by omega
      · exact grown_bin0 d IH a n l A c w (by have := h.cap; have := h.big; omega) h D hD (by omega) e
      · exact grown_bin1 d IH a n l A c w (by have := h.cap; have := h.big; omega) h D hD (by omega) e
      · exact grown_bin2 d IH a n l A c w (by have := h.cap; have := h.big; omega) h D hD (by omega) e
      · exact grown_un d IH a n l A c w (by have := h.cap; have := h.big; omega) h D hD (by omega) e
      · exact grown_num d IH a n l A c w (by have := h.cap; have := h.big; omega) h D hD (by omega) e
      · exact grown_idx d IH a n l A c w (by have := h.cap; have := h.big; omega) h D hD (by omega) e
      · exact grown_call d IH a n l A c w (by have := h.cap; have := h.big; omega) h D hD (by omega) e
      · exact grown_rng d IH a n l A c w (by have := h.cap; have := h.big; omega) h D hD (by omega) e
      · exact grown_str d IH a n l A c w (by have := h.cap; have := h.big; omega) h D hD (by omega) e
theorem ret_s {s s' : ByteArray} (h : s = s') : Ending.returned (.string s) = .returned (.string s') := by rw [h]
def partX (k : Nat) (e t : List UInt8) : List UInt8 := if k = 8 then oneX 8 e t ++ 59 :: 32 :: oneX 10 e t else oneX k e t
set_option maxRecDepth 100000 in
set_option maxHeartbeats 6400000 in
theorem one_0 (e t : List UInt8) (he : e.length ≤ 600) (ht : t.length ≤ 1000000) (w : World) : Calls Try.prog 21 #[.int .u8 0, .string (bt e), .string (bt t)] w fun r w' => r = .returned (.string (bt (partX 0 e t))) ∧ w = w' := by
  have h1 : (bt e).size ≤ 600 := by show e.toArray.size ≤ 600; simpa using he
  have h2 : (bt t).size ≤ 1000000 := by show t.toArray.size ≤ 1000000; simpa using ht
  go_enter Try.func21, Try.ntmps21
  go_wp2
  go_ret
  exact ⟨ret_s (Lx.bytes_ext (by simp [bt_data, partX, oneX, ByteArray.data_append])), rfl⟩
set_option maxRecDepth 100000 in
set_option maxHeartbeats 6400000 in
theorem one_1 (e t : List UInt8) (he : e.length ≤ 600) (ht : t.length ≤ 1000000) (w : World) : Calls Try.prog 21 #[.int .u8 1, .string (bt e), .string (bt t)] w fun r w' => r = .returned (.string (bt (partX 1 e t))) ∧ w = w' := by
  have h1 : (bt e).size ≤ 600 := by show e.toArray.size ≤ 600; simpa using he
  have h2 : (bt t).size ≤ 1000000 := by show t.toArray.size ≤ 1000000; simpa using ht
  go_enter Try.func21, Try.ntmps21
  go_wp2
  go_ret
  exact ⟨ret_s (Lx.bytes_ext (by simp [bt_data, partX, oneX, ByteArray.data_append])), rfl⟩
set_option maxRecDepth 100000 in
set_option maxHeartbeats 6400000 in
theorem one_2 (e t : List UInt8) (he : e.length ≤ 600) (ht : t.length ≤ 1000000) (w : World) : Calls Try.prog 21 #[.int .u8 2, .string (bt e), .string (bt t)] w fun r w' => r = .returned (.string (bt (partX 2 e t))) ∧ w = w' := by
  have h1 : (bt e).size ≤ 600 := by show e.toArray.size ≤ 600; simpa using he
  have h2 : (bt t).size ≤ 1000000 := by show t.toArray.size ≤ 1000000; simpa using ht
  go_enter Try.func21, Try.ntmps21
  go_wp2
  go_ret
  exact ⟨ret_s (Lx.bytes_ext (by simp [bt_data, partX, oneX, ByteArray.data_append])), rfl⟩
set_option maxRecDepth 100000 in
set_option maxHeartbeats 6400000 in
theorem one_3 (e t : List UInt8) (he : e.length ≤ 600) (ht : t.length ≤ 1000000) (w : World) : Calls Try.prog 21 #[.int .u8 3, .string (bt e), .string (bt t)] w fun r w' => r = .returned (.string (bt (partX 3 e t))) ∧ w = w' := by
  have h1 : (bt e).size ≤ 600 := by show e.toArray.size ≤ 600; simpa using he
  have h2 : (bt t).size ≤ 1000000 := by show t.toArray.size ≤ 1000000; simpa using ht
  go_enter Try.func21, Try.ntmps21
  go_wp2
  go_ret
  exact ⟨ret_s (Lx.bytes_ext (by simp [bt_data, partX, oneX, ByteArray.data_append])), rfl⟩
set_option maxRecDepth 100000 in
set_option maxHeartbeats 6400000 in
theorem one_4 (e t : List UInt8) (he : e.length ≤ 600) (ht : t.length ≤ 1000000) (w : World) : Calls Try.prog 21 #[.int .u8 4, .string (bt e), .string (bt t)] w fun r w' => r = .returned (.string (bt (partX 4 e t))) ∧ w = w' := by
  have h1 : (bt e).size ≤ 600 := by show e.toArray.size ≤ 600; simpa using he
  have h2 : (bt t).size ≤ 1000000 := by show t.toArray.size ≤ 1000000; simpa using ht
  go_enter Try.func21, Try.ntmps21
  go_wp2
  go_ret
  exact ⟨ret_s (Lx.bytes_ext (by simp [bt_data, partX, oneX, ByteArray.data_append])), rfl⟩
set_option maxRecDepth 100000 in
set_option maxHeartbeats 6400000 in
theorem one_5 (e t : List UInt8) (he : e.length ≤ 600) (ht : t.length ≤ 1000000) (w : World) : Calls Try.prog 21 #[.int .u8 5, .string (bt e), .string (bt t)] w fun r w' => r = .returned (.string (bt (partX 5 e t))) ∧ w = w' := by
  have h1 : (bt e).size ≤ 600 := by show e.toArray.size ≤ 600; simpa using he
  have h2 : (bt t).size ≤ 1000000 := by show t.toArray.size ≤ 1000000; simpa using ht
  go_enter Try.func21, Try.ntmps21
  go_wp2
  go_ret
  exact ⟨ret_s (Lx.bytes_ext (by simp [bt_data, partX, oneX, ByteArray.data_append])), rfl⟩
set_option maxRecDepth 100000 in
set_option maxHeartbeats 6400000 in
theorem one_6 (e t : List UInt8) (he : e.length ≤ 600) (ht : t.length ≤ 1000000) (w : World) : Calls Try.prog 21 #[.int .u8 6, .string (bt e), .string (bt t)] w fun r w' => r = .returned (.string (bt (partX 6 e t))) ∧ w = w' := by
  have h1 : (bt e).size ≤ 600 := by show e.toArray.size ≤ 600; simpa using he
  have h2 : (bt t).size ≤ 1000000 := by show t.toArray.size ≤ 1000000; simpa using ht
  go_enter Try.func21, Try.ntmps21
  go_wp2
  go_ret
  exact ⟨ret_s (Lx.bytes_ext (by simp [bt_data, partX, oneX, ByteArray.data_append])), rfl⟩
set_option maxRecDepth 100000 in
set_option maxHeartbeats 6400000 in
theorem one_7 (e t : List UInt8) (he : e.length ≤ 600) (ht : t.length ≤ 1000000) (w : World) : Calls Try.prog 21 #[.int .u8 7, .string (bt e), .string (bt t)] w fun r w' => r = .returned (.string (bt (partX 7 e t))) ∧ w = w' := by
  have h1 : (bt e).size ≤ 600 := by show e.toArray.size ≤ 600; simpa using he
  have h2 : (bt t).size ≤ 1000000 := by show t.toArray.size ≤ 1000000; simpa using ht
  go_enter Try.func21, Try.ntmps21
  go_wp2
  go_ret
  exact ⟨ret_s (Lx.bytes_ext (by simp [bt_data, partX, oneX, ByteArray.data_append])), rfl⟩
set_option maxRecDepth 100000 in
set_option maxHeartbeats 6400000 in
theorem one_8 (e t : List UInt8) (he : e.length ≤ 600) (ht : t.length ≤ 1000000) (w : World) : Calls Try.prog 21 #[.int .u8 8, .string (bt e), .string (bt t)] w fun r w' => r = .returned (.string (bt (partX 8 e t))) ∧ w = w' := by
  have h1 : (bt e).size ≤ 600 := by show e.toArray.size ≤ 600; simpa using he
  have h2 : (bt t).size ≤ 1000000 := by show t.toArray.size ≤ 1000000; simpa using ht
  go_enter Try.func21, Try.ntmps21
  go_wp2
  go_ret
  exact ⟨ret_s (Lx.bytes_ext (by simp [bt_data, partX, oneX, ByteArray.data_append])), rfl⟩
theorem one_any_ (k : Nat) (hk : k < 9) (kI : Int) (hkI : kI = (k : Int)) (e t : List UInt8) (he : e.length ≤ 600) (ht : t.length ≤ 1000000) (w : World) : Calls Try.prog 21 #[.int .u8 kI, .string (bt e), .string (bt t)] w fun r w' => r = .returned (.string (bt (partX k e t))) ∧ w = w' := by
  subst hkI
  match k, hk with
  | 0, _ => exact one_0 e t he ht w
  | 1, _ => exact one_1 e t he ht w
  | 2, _ => exact one_2 e t he ht w
  | 3, _ => exact one_3 e t he ht w
  | 4, _ => exact one_4 e t he ht w
  | 5, _ => exact one_5 e t he ht w
  | 6, _ => exact one_6 e t he ht w
  | 7, _ => exact one_7 e t he ht w
  | 8, _ => exact one_8 e t he ht w
def prtV (x : Prt × Value) : List Value := [.int .u8 x.1.1, x.2]
theorem prtV_len (l : List (Prt × Value)) : (l.flatMap prtV).length = l.length * 2 := by
  induction l with
  | nil => rfl
  | cons s l ih => simp only [List.flatMap_cons, List.length_append, List.length_cons] at ih ⊢; rw [ih, show (prtV s).length = 2 from rfl]; omega
theorem prtV_drop (l : List (Prt × Value)) (k : Nat) : (l.drop k).flatMap prtV = (l.flatMap prtV).drop (k * 2) := by
  induction l generalizing k with
  | nil => simp
  | cons s l ih =>
    cases k with
    | zero => simp
    | succ k =>
      rw [List.drop_succ_cons, ih k]
      simp only [List.flatMap_cons]
      rw [show (k + 1) * 2 = k * 2 + 1 + 1 from by omega]
      rfl
structure Parts (w : World) (A : Option Addr) (c : Nat) (q : List (Prt × Value)) : Prop where
  reads : Reads w w.heap.size 2 A q.length (q.flatMap prtV)
  cap : q.length ≤ c
  big : c ≤ 9223372036854775807
  each : ∀ x ∈ q, x.1.1 < 256 ∧ ∃ A' c', x.2 = .slice A' x.1.2.length c' ∧ Seeds w A' c' x.1.2
theorem Parts.below {w w' : World} {A : Option Addr} {c : Nat} {q : List (Prt × Value)} (h : Parts w A c q) (hb : Below w.heap.size w w') : Parts w' A c q :=
  ⟨(h.reads.below hb).more hb.size, h.cap, h.big, fun x hx => by obtain ⟨h1, A', c', h2, h3⟩ := h.each x hx; exact ⟨h1, A', c', h2, h3.below hb⟩⟩
theorem Parts.fit {w : World} {A : Option Addr} {c : Nat} {q : List (Prt × Value)} (h : Parts w A c q) : PFit (q.map (·.1)) := by
  intro p hp
  obtain ⟨x, hx, rfl⟩ := List.mem_map.1 hp
  obtain ⟨h1, A', c', _, h3⟩ := h.each x hx
  exact ⟨h1, h3.fit⟩
theorem Parts.drop {w : World} {A : Option Addr} {c : Nat} {l : List (Prt × Value)} (h : Parts w A c l) {k : Nat} (hk : k ≤ l.length) : Parts w (if c = k then A else A.map (·.add (k * 2))) (c - k) (l.drop k) := by
  have hc := h.cap
  refine ⟨⟨by rw [prtV_len], fun h0 => ?_⟩, by rw [List.length_drop]; omega, by have := h.big; omega, fun s hs => h.each s (List.mem_of_mem_drop hs)⟩
  rw [List.length_drop] at h0
  obtain ⟨ad, e, hb, hcl⟩ := h.reads.2 (by omega)
  subst e
  rw [if_neg (by omega)]
  refine ⟨ad.add (k * 2), rfl, by rw [block_of_add]; exact hb, fun j u hu => ?_⟩
  rw [prtV_drop, List.getElem?_drop] at hu
  rw [add_of_add]
  exact hcl _ _ hu
theorem parts_slice {w : World} {A : Option Addr} {c : Nat} {l : List (Prt × Value)} (h : Parts w A c l) {k : Nat} (hk : k ≤ l.length) (kI : Int) (e : kI = (k : Nat)) :
    ∃ A', (∀ w' : World, (Instr.slice 32 (.slice A l.length c) (some (.int .i64 kI)) none none).run Try.prog w' = .ok (.slice A' (l.drop k).length (c - k)) w') ∧ Parts w A' (c - k) (l.drop k) := by
  subst e
  refine ⟨_, fun w' => ?_, h.drop hk⟩
  have h0 : (0 : Int) ≤ (k : Int) := by omega
  have h1 : (k : Int) ≤ (l.length : Int) := by omega
  have hz : (Try.prog.elem 32) = 59 := by kernel_rfl
  simp [go_sem, h0, h1, sliced, Result.andThen, List.length_drop]
theorem Parts.at_ {w : World} {A : Option Addr} {c : Nat} {l : List (Prt × Value)} (h : Parts w A c l) {k : Nat} (hk : k < l.length) : ∃ g off, A = some ⟨g, off, none⟩ ∧ g < w.heap.size ∧ w.cell? ⟨g, off + k * 2, none⟩ = some (.int .u8 l[k].1.1) ∧ w.cell? ⟨g, off + k * 2 + 1, none⟩ = some l[k].2 := by
  obtain ⟨⟨g, off, sp⟩, e, hb, hc⟩ := h.reads.2 (by omega)
  have hd : (l.flatMap prtV).drop (k * 2) = .int .u8 l[k].1.1 :: l[k].2 :: (l.drop (k + 1)).flatMap prtV := by
    rw [← prtV_drop, List.drop_eq_getElem_cons hk]
    rfl
  have hu : ∀ j, (l.flatMap prtV)[k * 2 + j]? = (Value.int .u8 l[k].1.1 :: l[k].2 :: (l.drop (k + 1)).flatMap prtV)[j]? := fun j => by rw [← hd, List.getElem?_drop]
  have c0 := hc (k * 2) _ (by have := hu 0; simpa using this)
  have c1 := hc (k * 2 + 1) _ (by have := hu 1; simpa using this)
  have hs : sp = none := by
    have hl : 0 < (l.flatMap prtV).length := by rw [prtV_len]; omega
    have c9 := hc 0 _ (List.getElem?_eq_getElem hl)
    have := World.cell?_spot c9
    simpa [Addr.add] using this
  subst hs
  have ea : ∀ j, (⟨g, off, none⟩ : Addr).add j = ⟨g, off + j, none⟩ := fun j => by
    unfold Addr.add
    by_cases h0 : j = 0
    · subst h0; rfl
    · rw [if_neg h0]
  rw [ea] at c0 c1
  exact ⟨g, off, e, hb, c0, by rw [Nat.add_assoc]; exact c1⟩
end Go.Proofs.Ytecmjhohniipoaa.St

end

section
namespace Go.Proofs.Ytecmjhohniipoaa.St
open Ex
open Go.RowKit Go.ChangeShapes Go.WideShapes Go.Deep
section
variable {H : Type} {enc : TypeId × Value → H} {P : Program} {w : World} {base : Nat} {spare : Nat → Bool} {held : Bool}
theorem open_slice_fields {t e : TypeId} {fs : Array Field} {fuel : Nat} {cs : List Value} {x : DataW H × List MemPlace} (ht : P.underlying t = some (.slice e)) (he : P.underlying e = some (.struct fs))
    (hone : oneCellFields P fs = true) (hC : P.cellsOf e = fs.size) (h : DataW.trod enc P w base spare held fuel t cs = some x) :
    (cs = [.slice none 0 0] ∧ x = (.nil, [])) ∨
    ∃ (a : Addr) (len cap m : Nat) (D : Nat → DataW H) (Pl : Nat → List MemPlace), cs = [.slice (some a) len cap] ∧ base ≤ a.block ∧ len ≤ cap ∧ cap ≤ maxLen ∧ m = (if spare a.block then cap else len) ∧
      x = (.slice ((List.range len).map D) ((List.range (m - len)).map fun j => D (len + j)), MemPlace.row a (m * fs.size) ++ (List.range m).flatMap Pl) ∧
      ∀ i, i < m → ∃ (ys : List (DataW H × List MemPlace)) (n : Nat), D i = .agg (ys.map (·.1)) ∧ Pl i = ys.flatMap (·.2) ∧ ys.length = fs.size ∧
        ∀ (j : Nat) (f : Field), fs[j]? = some f → ∃ (v : Value) (y : DataW H × List MemPlace), w.cell? (a.add (i * fs.size + j)) = some v ∧ ys[j]? = some y ∧ DataW.trod enc P w base spare held n f.type [v] = some y := by
  rcases open_slice ht h with h0 | ⟨a, len, cap, m, n, D, Pl, hcs, hb, hl, hm, hmm, hx, hi⟩
  · exact .inl h0
  · refine .inr ⟨a, len, cap, m, D, Pl, hcs, hb, hl, hm, hmm, by rw [hC] at hx; exact hx, fun i him => ?_⟩
    obtain ⟨cs', hc, ht'⟩ := hi i him
    rw [hC] at hc
    obtain ⟨ys, n', hn', hy, hlen, hyl, hf⟩ := DataW.trod_struct he ht'
    obtain ⟨_, hcl, hat⟩ := World.cells?_some hc
    simp only [Prod.mk.injEq] at hy
    refine ⟨ys, n', hy.1, hy.2, hyl, fun j f hj => ?_⟩
    obtain ⟨ho, hk⟩ := hone_of hone j f hj
    have hjl : j < fs.size := (Array.getElem?_eq_some_iff.1 hj).1
    have hcell := hat j hjl
    have hv : cs'[j]? = some (cs'[j]'(by omega)) := List.getElem?_eq_getElem (by omega)
    have h1 := hf j f hj
    rw [ho, hk] at h1
    have hone' : (cs'.drop j).take 1 = [cs'[j]'(by omega)] := by
      rw [List.drop_eq_getElem_cons (by omega)]
      rfl
    rw [hone'] at h1
    have hys : ys[j]? = some (ys[j]'(by omega)) := List.getElem?_eq_getElem (by omega)
    refine ⟨_, _, ?_, hys, h1.trans hys⟩
    rw [← Go.Deep.add_add, hcell, hv]
end
theorem cells80 : Try.prog.cellsOf 80 = 2 := by kernel_rfl
theorem oneSeed : ∃ fs, Try.prog.underlying 80 = some (.struct fs) ∧ oneCellFields Try.prog fs = true ∧ fs.size = 2 ∧ fs.toList.map (·.type) = [5, 36] := ⟨_, Try.underlying80, by kernel_rfl, by kernel_rfl, by kernel_rfl⟩
theorem seed_at (p : Nat × Nat) (r : Nat) (h : r < 2) : (seedV p)[r]? = some (match r with | 0 => .int .u8 p.1 | _ => .int .u16 p.2) := by
  match r, h with
  | 0, _ => rfl
  | 1, _ => rfl
theorem seedsV_at (l : List (Nat × Nat)) (i r : Nat) (hi : i < l.length) (hr : r < 2) : (seedsV l)[i * 2 + r]? = (seedV l[i])[r]? := by
  rw [← List.getElem?_drop, ← seedsV_drop, List.drop_eq_getElem_cons hi]
  simp only [seedsV, List.flatMap_cons]
  rw [List.getElem?_append_left (by simp [seedV]; omega)]
theorem open_seeds1 {H : Type} {enc : TypeId × Value → H} {W : World} {v : Value} {fuel : Nat} {x : DataW H × List MemPlace} (hf : DataW.trod enc Try.prog W 0 (fun _ => true) true fuel 57 [v] = some x) :
    ∃ A c l, v = .slice A l.length c ∧ Seeds W A c l := by
  obtain ⟨fs, hu, hone, hsz, hty⟩ := oneSeed
  rcases open_slice_fields Try.underlying57 hu hone (by rw [hsz]; exact cells80) hf with ⟨h1, h2⟩ | ⟨a, len, cap, m, D, Pl, h1, _, h3, h4, h5, h6, h7⟩
  · have e : v = .slice none 0 0 := by simpa using h1
    exact ⟨none, 0, [], by simpa using e, ⟨⟨by simp [seedsV], fun h => absurd h (by simp)⟩, by simp, by omega, fun p hp => by simp at hp⟩⟩
  · have e : v = .slice (some a) len cap := by simpa using h1
    rw [if_pos rfl] at h5
    subst h5
    have hex : ∀ i, ∃ q : Nat × Nat, i < len → (∀ r, r < 2 → W.cell? (a.add (i * 2 + r)) = (seedV q)[r]?) ∧ q.1 < 256 ∧ q.2 ≤ 65535 := by
      intro i
      by_cases hi : i < len
      · obtain ⟨ys, n, g1, _, g3, g4⟩ := h7 i (by omega)
        rw [hsz] at g4
        have ft : ∀ j (hj : j < 2), ∃ f, fs[j]? = some f ∧ [5, 36][j]? = some f.type := by
          intro j hj
          have hj' : j < fs.size := by omega
          refine ⟨fs[j], Array.getElem?_eq_getElem hj', ?_⟩
          rw [← hty]
          simp [List.getElem?_map, hj']
        have get : ∀ j (hj : j < 2), ∃ v y t, W.cell? (a.add (i * 2 + j)) = some v ∧ ys[j]? = some y ∧ [5, 36][j]? = some t ∧ DataW.trod enc Try.prog W 0 (fun _ => true) true n t [v] = some y := by
          intro j hj
          obtain ⟨f, f1, f2⟩ := ft j hj
          obtain ⟨v, y, q1, q2, q3⟩ := g4 j f f1
          exact ⟨v, y, f.type, q1, q2, f2, q3⟩
        obtain ⟨v0, y0, t0, c0, _, e0, k0⟩ := get 0 (by omega)
        obtain ⟨v1, y1, t1, c1, _, e1, k1⟩ := get 1 (by omega)
        simp only [List.getElem?_cons_zero, List.getElem?_cons_succ, Option.some.injEq] at e0 e1
        subst e0 e1
        obtain ⟨n0, r0, _, w0⟩ := DataW.trod_int Try.underlying5 k0
        obtain ⟨n1, r1, _, w1⟩ := DataW.trod_int Try.underlying36 k1
        simp only [List.cons.injEq, and_true] at r0 r1
        subst r0 r1
        have u0 := bounds_u8 w0
        have u1 := bounds_u16 w1
        refine ⟨(n0.toNat, n1.toNat), fun _ => ⟨fun r hr => ?_, by simp only; omega, by simp only; omega⟩⟩
        rw [seed_at _ _ hr]
        match r, hr with
        | 0, _ => rw [c0]; simp; omega
        | 1, _ => rw [c1]; simp; omega
      · exact ⟨(0, 0), fun h => absurd h hi⟩
    obtain ⟨f, hfq⟩ : ∃ f : Nat → Nat × Nat, ∀ i, i < len → (∀ r, r < 2 → W.cell? (a.add (i * 2 + r)) = (seedV (f i))[r]?) ∧ (f i).1 < 256 ∧ (f i).2 ≤ 65535 :=
      ⟨fun i => Classical.choose (hex i), fun i hi => Classical.choose_spec (hex i) hi⟩
    have hll : ((List.range len).map f).length = len := by simp
    refine ⟨some a, m, (List.range len).map f, by rw [e, hll], ⟨⟨by rw [seedsV_len], fun h0 => ?_⟩, by rw [hll]; exact h3, by unfold maxLen at h4; omega, ?_⟩⟩
    · rw [hll] at h0
      refine ⟨a, rfl, ?_, fun j u hu => ?_⟩
      · have h00 := (hfq 0 h0).1 0 (by omega)
        rw [seed_at _ _ (by omega)] at h00
        have := World.block_lt_of_cell? W _ h00
        rwa [block_of_add] at this
      · have hj : j < len * 2 := by
          have := (List.getElem?_eq_some_iff.1 hu).1
          rw [seedsV_len, hll] at this; exact this
        have ej : j = j / 2 * 2 + j % 2 := by omega
        have hq : j / 2 < ((List.range len).map f).length := by rw [hll]; omega
        rw [ej, seedsV_at _ _ _ hq (by omega)] at hu
        rw [ej, (hfq (j / 2) (by omega)).1 (j % 2) (by omega), ← hu]
        simp
    · intro q hq
      obtain ⟨i, hi, rfl⟩ := List.mem_map.1 hq
      exact (hfq i (by simpa using hi)).2
theorem cells59 : Try.prog.cellsOf 59 = 2 := by kernel_rfl
theorem onePart : ∃ fs, Try.prog.underlying 59 = some (.struct fs) ∧ oneCellFields Try.prog fs = true ∧ fs.size = 2 ∧ fs.toList.map (·.type) = [5, 57] := ⟨_, Try.underlying59, by kernel_rfl, by kernel_rfl, by kernel_rfl⟩
theorem prt_at (p : Prt × Value) (r : Nat) (h : r < 2) : (prtV p)[r]? = some (match r with | 0 => .int .u8 p.1.1 | _ => p.2) := by
  match r, h with
  | 0, _ => rfl
  | 1, _ => rfl
theorem prtV_at (l : List (Prt × Value)) (i r : Nat) (hi : i < l.length) (hr : r < 2) : (l.flatMap prtV)[i * 2 + r]? = (prtV l[i])[r]? := by
  rw [← List.getElem?_drop, ← prtV_drop, List.drop_eq_getElem_cons hi]
  simp only [List.flatMap_cons]
  rw [List.getElem?_append_left (by simp [prtV]; omega)]
theorem open_parts {H : Type} {enc : TypeId × Value → H} {W : World} {v : Value} {d : DataW H} {p : List MemPlace} (h : DataW.Trod enc Try.prog W 0 (fun _ => true) true 32 v d p) (hone1 : ∃ A n c, v = .slice A n c) :
    ∃ A c q, v = .slice A q.length c ∧ Parts W A c q := by
  obtain ⟨A0, n0, c0, rfl⟩ := hone1
  obtain ⟨fuel, hf⟩ := h
  obtain ⟨fs, hu, hone, hsz, hty⟩ := onePart
  have hcells : (Value.slice A0 n0 c0).cells.toList = [.slice A0 n0 c0] := rfl
  rcases open_slice_fields Try.underlying32 hu hone (by rw [hsz]; exact cells59) hf with ⟨h1, h2⟩ | ⟨a, len, cap, m, D, Pl, h1, _, h3, h4, h5, h6, h7⟩
  · rw [hcells] at h1
    have e : (Value.slice A0 n0 c0) = .slice none 0 0 := by simpa using h1
    exact ⟨none, 0, [], by simpa using e, ⟨⟨by simp, fun h => absurd h (by simp)⟩, by simp, by omega, fun p hp => by simp at hp⟩⟩
  · rw [hcells] at h1
    have e : (Value.slice A0 n0 c0) = .slice (some a) len cap := by simpa using h1
    rw [if_pos rfl] at h5
    subst h5
    have hex : ∀ i, ∃ q : Prt × Value, i < len → (∀ r, r < 2 → W.cell? (a.add (i * 2 + r)) = (prtV q)[r]?) ∧ q.1.1 < 256 ∧ ∃ A' c', q.2 = .slice A' q.1.2.length c' ∧ Seeds W A' c' q.1.2 := by
      intro i
      by_cases hi : i < len
      · obtain ⟨ys, n, g1, _, g3, g4⟩ := h7 i (by omega)
        rw [hsz] at g4
        have ft : ∀ j (hj : j < 2), ∃ f, fs[j]? = some f ∧ [5, 57][j]? = some f.type := by
          intro j hj
          have hj' : j < fs.size := by omega
          refine ⟨fs[j], Array.getElem?_eq_getElem hj', ?_⟩
          rw [← hty]
          simp [List.getElem?_map, hj']
        have get : ∀ j (hj : j < 2), ∃ v y t, W.cell? (a.add (i * 2 + j)) = some v ∧ ys[j]? = some y ∧ [5, 57][j]? = some t ∧ DataW.trod enc Try.prog W 0 (fun _ => true) true n t [v] = some y := by
          intro j hj
          obtain ⟨f, f1, f2⟩ := ft j hj
          obtain ⟨v, y, q1, q2, q3⟩ := g4 j f f1
          exact ⟨v, y, f.type, q1, q2, f2, q3⟩
        obtain ⟨v0, y0, t0, c0, _, e0, k0⟩ := get 0 (by omega)
        obtain ⟨v1, y1, t1, c1, _, e1, k1⟩ := get 1 (by omega)
        simp only [List.getElem?_cons_zero, List.getElem?_cons_succ, Option.some.injEq] at e0 e1
        subst e0 e1
        obtain ⟨n0, r0, _, w0⟩ := DataW.trod_int Try.underlying5 k0
        simp only [List.cons.injEq, and_true] at r0
        subst r0
        have u0 := bounds_u8 w0
        obtain ⟨A', c', l', rfl, hS⟩ := open_seeds1 k1
        refine ⟨((n0.toNat, l'), .slice A' l'.length c'), fun _ => ⟨fun r hr => ?_, by simp only; omega, A', c', rfl, hS⟩⟩
        rw [prt_at _ _ hr]
        match r, hr with
        | 0, _ => rw [c0]; simp; omega
        | 1, _ => rw [c1]; rfl
      · exact ⟨((0, []), .slice none 0 0), fun h => absurd h hi⟩
    obtain ⟨f, hfq⟩ : ∃ f : Nat → Prt × Value, ∀ i, i < len → (∀ r, r < 2 → W.cell? (a.add (i * 2 + r)) = (prtV (f i))[r]?) ∧ (f i).1.1 < 256 ∧ ∃ A' c', (f i).2 = .slice A' (f i).1.2.length c' ∧ Seeds W A' c' (f i).1.2 :=
      ⟨fun i => Classical.choose (hex i), fun i hi => Classical.choose_spec (hex i) hi⟩
    have hll : ((List.range len).map f).length = len := by simp
    refine ⟨some a, m, (List.range len).map f, by rw [e, hll], ⟨⟨by rw [prtV_len], fun h0 => ?_⟩, by rw [hll]; exact h3, by unfold maxLen at h4; omega, ?_⟩⟩
    · rw [hll] at h0
      refine ⟨a, rfl, ?_, fun j u hu => ?_⟩
      · have h00 := (hfq 0 h0).1 0 (by omega)
        rw [prt_at _ _ (by omega)] at h00
        have := World.block_lt_of_cell? W _ h00
        rwa [block_of_add] at this
      · have hj : j < len * 2 := by
          have := (List.getElem?_eq_some_iff.1 hu).1
          rw [prtV_len, hll] at this; exact this
        have ej : j = j / 2 * 2 + j % 2 := by omega
        have hq : j / 2 < ((List.range len).map f).length := by rw [hll]; omega
        rw [ej, prtV_at _ _ _ hq (by omega)] at hu
        rw [ej, (hfq (j / 2) (by omega)).1 (j % 2) (by omega), ← hu]
        simp
    · intro q hq
      obtain ⟨i, hi, rfl⟩ := List.mem_map.1 hq
      exact (hfq i (by simpa using hi)).2
end Go.Proofs.Ytecmjhohniipoaa.St

end

section
namespace Go.Proofs.Ytecmjhohniipoaa.St
open Go.RowKit
open Tr (Nd Fo RepS RepN Rep cellsN)
open Lx (Tk noTk run_store_complexL bt)
open Fl
open Ex
attribute [local go_sem] run_store_complexL run_field1 run_field3
def innerD : Nat → List Prt → Bx × Nat
  | 0 => fun _ => (.nil, 0)
  | d + 1 => fun l' => textP d 2 l'
theorem textP_eq (d most : Nat) (l : List Prt) : textP d most l = loopP (innerD d) most (l.length + 1) 0 l := by cases d <;> rfl
def TextR (w : World) (r : Bx × Nat) (e : Ending) (w' : World) : Prop := ∃ n : Int, e = .returned (.tuple #[.string (bt r.1.text), .int .i64 n, .int .i64 r.2]) ∧ Below w.heap.size w w'
def TextIH (d : Nat) : Prop := ∀ (q : List (Prt × Value)) (A : Option Addr) (c : Nat) (w : World) (most : Nat), q.length ≤ 20 → most ≤ 6 → Parts w A c q → ∀ M D : Int, M = (most : Nat) → D = (d : Nat) →
  Calls Try.prog 13 #[.slice A q.length c, .int .i64 M, .int .i64 D] w (TextR w (textP d most (q.map (·.1))))
def joinX (sb : List UInt8) (nn : Nat) (r : Bx) : List UInt8 := if nn = 0 then sb ++ r.text else if r.isNil = true then sb else sb ++ 59 :: 32 :: r.text
theorem part_text (k : Nat) (e : Gr) (b r : Bx) : (partB k e b r).text = partX k e.text b.text ++ (if r.isNil = true then [] else 59 :: 32 :: r.text) ∧ (partB k e b r).isNil = false := by
  unfold partB partX
  split
  · refine ⟨?_, rfl⟩
    show oneX 8 e.text [] ++ (59 :: 32 :: (oneX 10 e.text [] ++ (if r.isNil = true then [] else 59 :: 32 :: r.text))) = _
    simp [oneX]
  · exact ⟨rfl, rfl⟩
theorem join_step {sb : List UInt8} {nn n' k : Nat} (hn : nn = 0 → sb = []) (hn' : n' ≠ 0) (e : Gr) (b r : Bx) : joinX sb nn (partB k e b r) = joinX ((if nn = 0 then sb else sb ++ [59, 32]) ++ partX k e.text b.text) n' r := by
  obtain ⟨h1, h2⟩ := part_text k e b r
  unfold joinX
  rw [if_neg hn', h1, h2]
  by_cases h0 : nn = 0
  · rw [if_pos h0, if_pos h0, hn h0]
    split <;> simp
  · rw [if_neg h0, if_neg h0, if_neg (by simp)]
    split <;> simp
theorem join_len (sb : List UInt8) (nn : Nat) (r : Bx) : sb.length ≤ (joinX sb nn r).length := by
  unfold joinX
  split
  · simp
  · split <;> simp
theorem loop_stop {inner : List Prt → Bx × Nat} {most f n : Nat} {l : List Prt} (h : l = [] ∨ most ≤ n) : loopP inner most f n l = (.nil, 0) := by
  cases f with
  | zero => unfold loopP; rfl
  | succ f =>
    cases l with
    | nil => unfold loopP; rfl
    | cons p l =>
      obtain ⟨d, e⟩ := p
      unfold loopP
      rw [if_neg]
      rcases h with h | h
      · cases h
      · omega
theorem join_nil (sb : List UInt8) (nn : Nat) : joinX sb nn .nil = sb := by
  unfold joinX
  split
  · show sb ++ [] = sb; simp
  · rfl
theorem ret_t {s s' : ByteArray} {n i i' : Int} (h1 : s = s') (h2 : i = i') : Ending.returned (.tuple #[.string s, .int .i64 n, .int .i64 i]) = .returned (.tuple #[.string s', .int .i64 n, .int .i64 i']) := by rw [h1, h2]
theorem lenB_4 : ∀ d, d ≤ 4 → lenB d ≤ 40300 := by decide
structure TX (w wr : World) (total : Bx × Nat) (inner : List Prt → Bx × Nat) (most : Nat) (q : List (Prt × Value)) (k nn f : Nat) (sb : List UInt8) : Prop where
  bel : Below w.heap.size w wr
  emp : nn = 0 → sb = []
  text : total.1.text = joinX sb nn (loopP inner most f nn ((q.drop k).map (·.1))).1
  used : total.2 = k + (loopP inner most f nn ((q.drop k).map (·.1))).2
  fuel : q.length < k + f
theorem TX.step {w wr : World} {total : Bx × Nat} {inner : List Prt → Bx × Nat} {most : Nat} {q : List (Prt × Value)} {k nn f : Nat} {sb : List UInt8} (h : TX w wr total inner most q k nn f sb) (hk : k < q.length) (hm : nn < most) {d : Nat} {es : List (Nat × Nat)} (hq : q[k].1 = (d, es)) {b : Bx × Nat}
    (hb : b = if d % 9 < 7 then inner ((q.drop (k + 1)).map (·.1)) else (.nil, 0)) {w2 : World} (hw : Below w.heap.size w w2) :
    TX w w2 total inner most q (k + 1 + b.2) (if d % 9 = 8 then nn + 2 else nn + 1) (f - 1) ((if nn = 0 then sb else sb ++ [59, 32]) ++ partX (d % 9) (grownP 5 es).1.text b.1.text) := by
  obtain ⟨f, rfl⟩ : ∃ f', f = f' + 1 := ⟨f - 1, by have := h.fuel; omega⟩
  have hl : (q.drop k).map (·.1) = (d, es) :: (q.drop (k + 1)).map (·.1) := by
    rw [List.drop_eq_getElem_cons hk, List.map_cons, hq]
  have hs : loopP inner most (f + 1) nn ((q.drop k).map (·.1)) = (partB (d % 9) (grownP 5 es).1 b.1 (loopP inner most f (if d % 9 = 8 then nn + 2 else nn + 1) ((q.drop (k + 1 + b.2)).map (·.1))).1, 1 + b.2 + (loopP inner most f (if d % 9 = 8 then nn + 2 else nn + 1) ((q.drop (k + 1 + b.2)).map (·.1))).2) := by
    rw [hl, loopP, if_pos hm, ← hb, ← List.map_drop, List.drop_drop]
  have h1 := h.text
  have h2 := h.used
  rw [hs] at h1 h2
  refine ⟨hw, fun e => by split at e <;> omega, ?_, ?_, by have := h.fuel; simp only [Nat.add_sub_cancel]; omega⟩
  · rw [h1, join_step h.emp (n' := if d % 9 = 8 then nn + 2 else nn + 1) (by split <;> omega)]
    rfl
  · rw [h2, Nat.add_sub_cancel]
    show k + (1 + b.2 + _) = k + 1 + b.2 + _
    omega
set_option maxRecDepth 100000 in
set_option maxHeartbeats 6400000 in
theorem text_step (dd : Nat) (hdd : dd ≤ 4) (IH : ∀ d', d' + 1 = dd → TextIH d') : TextIH dd := by
  intro q A c w most hq20 hm6 hP M D hM hD
  have hfit := hP.fit
  have hlen := text_len dd most (q.map (·.1)) hfit
  have hus := (text_ok dd most (q.map (·.1)) hfit).2
  have hB4 := lenB_4 dd hdd
  obtain ⟨total, htot⟩ : ∃ t, t = textP dd most (q.map (·.1)) := ⟨_, rfl⟩
  rw [← htot] at hlen hus ⊢
  rw [List.length_map] at hus
  have hbig : total.1.text.length ≤ 900000 := by
    have h1 : lenB dd * total.2 ≤ 40300 * 20 := Nat.mul_le_mul hB4 (by omega)
    omega
  have HT := Lib.hid (show TX w w total (innerD dd) most q 0 0 (q.length + 1) [] from ⟨Below.refl _ _, fun _ => rfl, by rw [htot, textP_eq, List.length_map]; rfl, by rw [htot, textP_eq, List.length_map, Nat.zero_add]; rfl, by omega⟩)
  have HP := Lib.hid hP
  have HIH := Lib.hid IH
  have HG5 := Lib.hid (fun (l : List (Nat × Nat)) (A : Option Addr) (c : Nat) (w : World) (h : Seeds w A c l) => grown_any 5 (by decide) l A c w (by decide) h 5 rfl)
  have hin0 : dd = 0 → innerD dd = fun _ => (.nil, 0) := by rintro rfl; rfl
  have hin1 : ∀ d', d' + 1 = dd → innerD dd = fun l' => textP d' 2 l' := by rintro d' rfl; rfl
  have HI0 := Lib.hid hin0
  have HI1 := Lib.hid hin1
  have HMM := Lib.hid hM
  have HDD := Lib.hid hD
  have m1 : 0 ≤ M := by omega
  have m2 : M ≤ 6 := by omega
  have d1 : 0 ≤ D := by omega
  have d2 : D ≤ 4 := by omega
  have hcb := hP.cap
  have hcc := hP.big
  clear htot hfit hlen hB4 hin0 hin1 IH hP hM hD hus
  obtain ⟨N, hN⟩ : ∃ N, N = q.length := ⟨_, rfl⟩
  have HN := Lib.hid hN
  rw [← hN] at hq20 hcb ⊢
  clear hN
  go_enter Try.func13, Try.ntmps13
  go_wp2_with fail
  go_loopw [9, 10, 11] (fun s a n wr => ∃ (k nn f : Nat) (sb : List UInt8), k ≤ N ∧ nn ≤ 2 * k ∧ a = .int .i64 k ∧ n = .int .i64 nn ∧ s = .string (bt sb) ∧ Hid (TX w wr total (innerD dd) most q k nn f sb)) (fun _ a _ _ => N - (intOf a).toNat)
  case atStart => exact ⟨0, 0, q.length + 1, [], by omega, by omega, rfl, rfl, rfl, HT⟩
  case round =>
    obtain ⟨k, nn, f, sb, hkN, hnk, rfl, rfl, rfl, HX⟩ := hrel
    clear HT
    obtain ⟨wo, rfl⟩ : ∃ wo : World, wo = wr := ⟨_, rfl⟩
    have hsb : sb.length ≤ 900000 := by have := join_len sb nn (loopP (innerD dd) most f nn ((q.drop k).map (·.1))).1; rw [← HX.out.text] at this; omega
    have hsb2 : (bt sb).size ≤ 900000 := by show sb.toArray.size ≤ 900000; simpa using hsb
    by_cases hk : k < N
    case neg =>
      have g0 : decide (k < N) = false := decide_eq_false hk
      have HE := Lib.hid (loop_stop (inner := innerD dd) (most := most) (f := f) (n := nn) (l := (q.drop k).map (·.1)) (.inl (by rw [List.drop_of_length_le (by have := HN.out; omega)]; rfl)))
      go_wp2
      go_ret3
      exact ⟨nn, ret_t (by rw [HX.out.text, HE.out, join_nil]) (by rw [HX.out.used, HE.out]; rfl), HX.out.bel⟩
    have g0 : decide (k < N) = true := decide_eq_true hk
    by_cases hm : (nn : Int) < M
    case neg =>
      have g1 : decide ((nn : Int) < M) = false := decide_eq_false hm
      have HE := Lib.hid (loop_stop (inner := innerD dd) (most := most) (f := f) (n := nn) (l := (q.drop k).map (·.1)) (.inr (by have := HMM.out; omega)))
      go_wp2
      go_ret3
      exact ⟨nn, ret_t (by rw [HX.out.text, HE.out, join_nil]) (by rw [HX.out.used, HE.out]; rfl), HX.out.bel⟩
    have g1 : decide ((nn : Int) < M) = true := decide_eq_true hm
    have hkq : k < q.length := by have := HN.out; omega
    have HPO := Lib.hid (HP.out.below HX.out.bel)
    obtain ⟨g, off, hA, hg, c0, c1⟩ := HPO.out.at_ hkq
    subst hA
    obtain ⟨⟨⟨d, es⟩, v⟩, hqk⟩ : ∃ x, x = q[k] := ⟨_, rfl⟩
    rw [← hqk] at c0 c1
    obtain ⟨hd8, A1, c1', hv, hse⟩ := HPO.out.each q[k] (List.getElem_mem _)
    rw [← hqk] at hd8 hv hse
    simp only at hd8 hv hse c0 c1
    subst hv
    have HSE := Lib.hid hse
    have HQK := Lib.hid (show q[k].1 = (d, es) by rw [← hqk])
    have x0 : (0 : Int) ≤ (k : Int) := by omega
    have x1 : (k : Int) < (N : Int) := by omega
    have x2 : ¬ (k : Int) < 0 := by omega
    have x3 : (0 : Int) ≤ (d : Int) := by omega
    have x4 : (d : Int) ≤ 255 := by omega
    have y0 : (0 : Int) ≤ (d : Int) % 9 := by omega
    have y1 : (d : Int) % 9 < 9 := by omega
    have hes : (grownP 5 es).1.text.length ≤ 280 := grown5 es (fun s hs => (hse.fit s hs).2)
    have hes2 : (bt (grownP 5 es).1.text).size ≤ 280 := by show (grownP 5 es).1.text.toArray.size ≤ 280; simpa using hes
    clear hqk hse
    have HB1 := Lib.hid (Ex.bel1 wo (.cells #[.int .u8 d, .slice A1 es.length c1'] 59))
    have T0 := Lib.hid (Lx.Blk.new wo 59 #[.int .u8 d, .slice A1 es.length c1'])
    have D5 := Lib.hid (HG5.out es A1 c1' _ (HSE.out.below HB1.out))
    go_wp2_with fail
    ((with_reducible refine D5.out.mono ?_); rintro e wy ⟨b9, rfl, hr, hb⟩)
    have HW := Lib.hid (HB1.out.trans (hb.mono HB1.out.size))
    have T1 := Lib.hid (T0.out.below hb T0.out.lt)
    have z0 : wy.cell? ⟨wo.heap.size, 0, none⟩ = some (.int .u8 d) := T1.out.cell 0
    clear hr hb D5 c0 c1 HG5 hg
    generalize hgt : (grownP 5 es).1.text = gt at *
    have HGT := Lib.hid hgt
    clear hgt
    by_cases hin : d % 9 < 7 ∧ 0 < dd
    · obtain ⟨hi7, hi0⟩ := hin
      obtain ⟨d', rfl⟩ : ∃ d', d' + 1 = dd := ⟨dd - 1, by omega⟩
      have w7 : decide ((d : Int) % 9 < 7) = true := decide_eq_true (by omega)
      have w8 : decide (0 < D) = true := decide_eq_true (by have := HDD.out; omega)
      obtain ⟨A2, hsl, hp2⟩ := parts_slice (HPO.out.below HW.out) (k := k + 1) (by omega) ((k : Int) + 1) (by omega)
      have hdl : (q.drop (k + 1)).length ≤ N - (k + 1) := by rw [List.length_drop]; have := HN.out; omega
      have hN2 := HN.out
      have SL := Lib.hid hsl
      obtain ⟨bb, hbb⟩ : ∃ b, b = textP d' 2 ((q.drop (k + 1)).map (·.1)) := ⟨_, rfl⟩
      have DI := (HIH.out d' rfl) (q.drop (k + 1)) A2 (c - (k + 1)) wy 2 (by omega) (by decide) hp2 2 (D - 1) rfl (by have := HDD.out; omega)
      rw [← hbb] at DI
      have DI := Lib.hid DI
      have hb2 := (text_ok d' 2 ((q.drop (k + 1)).map (·.1)) hp2.fit).2
      have hbl := text_len d' 2 ((q.drop (k + 1)).map (·.1)) hp2.fit
      rw [← hbb] at hb2 hbl
      rw [List.length_map] at hb2
      have hbl2 : bb.1.text.length ≤ 1000000 := by
        have h1 : lenB d' * bb.2 ≤ 40300 * 20 := Nat.mul_le_mul (lenB_4 d' (by omega)) (by omega)
        omega
      have hb3 : k + 1 + bb.2 ≤ N := by omega
      have HBB := Lib.hid (show bb = if d % 9 < 7 then innerD (d' + 1) ((q.drop (k + 1)).map (·.1)) else (.nil, 0) by rw [if_pos hi7, hbb]; rfl)
      have hu0 : 0 ≤ (bb.2 : Int) := by omega
      have hu1 : (bb.2 : Int) ≤ 20 := by omega
      obtain ⟨n2, hn2⟩ : ∃ n2, n2 = (q.drop (k + 1)).length := ⟨_, rfl⟩
      rw [← hn2, ← hN2] at hsl
      rw [← hn2] at DI
      clear hp2 hbb hb2 hbl hn2 hdl hN2 SL HIH
      go_wp2_with fail
      ((with_reducible refine DI.out.mono ?_); rintro e wu ⟨n9, rfl, hb⟩)
      have hbt : (bt bb.1.text).size ≤ 1000000 := by show bb.1.text.toArray.size ≤ 1000000; simpa using hbl2
      have T2 := Lib.hid (T1.out.below hb T1.out.lt)
      have HW2 := Lib.hid (HW.out.trans (hb.mono HW.out.size))
      clear z0 hsl DI
      have z0 : wu.cell? ⟨wo.heap.size, 0, none⟩ = some (.int .u8 d) := T2.out.cell 0
      clear hb
      by_cases hn0 : nn = 0
      · have n0_ : ¬ (0 : Int) < (nn : Int) := by omega
        have hjn : (if nn = 0 then sb else sb ++ [59, 32]) = sb := if_pos hn0
        by_cases h8 : d % 9 = 8
        · have e8_ : ((d : Int) % 9 == 8) = true := by rw [beq_iff_eq]; omega
          have hnn : (if d % 9 = 8 then nn + 2 else nn + 1) = nn + 2 := if_pos h8
          have ST := Lib.hid (show TX w wu total (innerD (d' + 1)) most q (k + 1 + bb.2) (nn + 2) (f - 1) (sb ++ partX (d % 9) gt bb.1.text) by
            have h9 := HX.out.step hkq (by have := HMM.out; omega) HQK.out HBB.out (w2 := wu) (HX.out.bel.trans (HW2.out.mono HX.out.bel.size))
            rw [hjn, hnn, HGT.out] at h9
            exact h9)
          have hnew : (sb ++ partX (d % 9) gt bb.1.text).length ≤ 900000 := by
            have := join_len (sb ++ partX (d % 9) gt bb.1.text) (nn + 2) (loopP (innerD (d' + 1)) most (f - 1) (nn + 2) ((q.drop (k + 1 + bb.2)).map (·.1))).1
            rw [← ST.out.text] at this
            omega
          have hpx : (bt (partX (d % 9) gt bb.1.text)).size ≤ 900000 := by
            show (partX (d % 9) gt bb.1.text).toArray.size ≤ 900000
            rw [List.length_append] at hnew
            simp only [List.size_toArray]
            omega
          have O1 := Lib.hid (one_any_ (d % 9) (by omega) ((d : Int) % 9) (by omega) gt bb.1.text (by omega) hbl2 wu)
          clear hjn hnn h8 hn0
          go_wp2_with fail
          ((with_reducible refine O1.out.mono ?_); rintro e wv ⟨rfl, rfl⟩)
          clear O1
          go_wp2
          go_roundw
          case rel => exact ⟨k + 1 + bb.2, nn + 2, f - 1, sb ++ partX (d % 9) gt bb.1.text, by omega, by omega, (by first | go_num | (congr 1; omega)), by go_num, congrArg Value.string (Lx.bytes_ext (by simp [bt_data, ByteArray.data_append])), ST⟩
          case measure => simp [intOf]; omega
        · have e8_ : ((d : Int) % 9 == 8) = false := by rw [beq_eq_false_iff_ne]; omega
          have hnn : (if d % 9 = 8 then nn + 2 else nn + 1) = nn + 1 := if_neg h8
          have ST := Lib.hid (show TX w wu total (innerD (d' + 1)) most q (k + 1 + bb.2) (nn + 1) (f - 1) (sb ++ partX (d % 9) gt bb.1.text) by
            have h9 := HX.out.step hkq (by have := HMM.out; omega) HQK.out HBB.out (w2 := wu) (HX.out.bel.trans (HW2.out.mono HX.out.bel.size))
            rw [hjn, hnn, HGT.out] at h9
            exact h9)
          have hnew : (sb ++ partX (d % 9) gt bb.1.text).length ≤ 900000 := by
            have := join_len (sb ++ partX (d % 9) gt bb.1.text) (nn + 1) (loopP (innerD (d' + 1)) most (f - 1) (nn + 1) ((q.drop (k + 1 + bb.2)).map (·.1))).1
            rw [← ST.out.text] at this
            omega
          have hpx : (bt (partX (d % 9) gt bb.1.text)).size ≤ 900000 := by
            show (partX (d % 9) gt bb.1.text).toArray.size ≤ 900000
            rw [List.length_append] at hnew
            simp only [List.size_toArray]
            omega
          have O1 := Lib.hid (one_any_ (d % 9) (by omega) ((d : Int) % 9) (by omega) gt bb.1.text (by omega) hbl2 wu)
          clear hjn hnn h8 hn0
          go_wp2_with fail
          ((with_reducible refine O1.out.mono ?_); rintro e wv ⟨rfl, rfl⟩)
          clear O1
          go_wp2
          go_roundw
          case rel => exact ⟨k + 1 + bb.2, nn + 1, f - 1, sb ++ partX (d % 9) gt bb.1.text, by omega, by omega, (by first | go_num | (congr 1; omega)), by go_num, congrArg Value.string (Lx.bytes_ext (by simp [bt_data, ByteArray.data_append])), ST⟩
          case measure => simp [intOf]; omega
      · have n0_ : (0 : Int) < (nn : Int) := by omega
        have hjn : (if nn = 0 then sb else sb ++ [59, 32]) = sb ++ [59, 32] := if_neg hn0
        by_cases h8 : d % 9 = 8
        · have e8_ : ((d : Int) % 9 == 8) = true := by rw [beq_iff_eq]; omega
          have hnn : (if d % 9 = 8 then nn + 2 else nn + 1) = nn + 2 := if_pos h8
          have ST := Lib.hid (show TX w wu total (innerD (d' + 1)) most q (k + 1 + bb.2) (nn + 2) (f - 1) (sb ++ [59, 32] ++ partX (d % 9) gt bb.1.text) by
            have h9 := HX.out.step hkq (by have := HMM.out; omega) HQK.out HBB.out (w2 := wu) (HX.out.bel.trans (HW2.out.mono HX.out.bel.size))
            rw [hjn, hnn, HGT.out] at h9
            exact h9)
          have hnew : (sb ++ [59, 32] ++ partX (d % 9) gt bb.1.text).length ≤ 900000 := by
            have := join_len (sb ++ [59, 32] ++ partX (d % 9) gt bb.1.text) (nn + 2) (loopP (innerD (d' + 1)) most (f - 1) (nn + 2) ((q.drop (k + 1 + bb.2)).map (·.1))).1
            rw [← ST.out.text] at this
            omega
          have hpx : (bt (partX (d % 9) gt bb.1.text)).size ≤ 900000 := by
            show (partX (d % 9) gt bb.1.text).toArray.size ≤ 900000
            rw [List.length_append] at hnew
            simp only [List.size_toArray]
            omega
          have O1 := Lib.hid (one_any_ (d % 9) (by omega) ((d : Int) % 9) (by omega) gt bb.1.text (by omega) hbl2 wu)
          clear hjn hnn h8 hn0
          go_wp2_with fail
          ((with_reducible refine O1.out.mono ?_); rintro e wv ⟨rfl, rfl⟩)
          clear O1
          go_wp2
          go_roundw
          case rel => exact ⟨k + 1 + bb.2, nn + 2, f - 1, sb ++ [59, 32] ++ partX (d % 9) gt bb.1.text, by omega, by omega, (by first | go_num | (congr 1; omega)), by go_num, congrArg Value.string (Lx.bytes_ext (by simp [bt_data, ByteArray.data_append])), ST⟩
          case measure => simp [intOf]; omega
        · have e8_ : ((d : Int) % 9 == 8) = false := by rw [beq_eq_false_iff_ne]; omega
          have hnn : (if d % 9 = 8 then nn + 2 else nn + 1) = nn + 1 := if_neg h8
          have ST := Lib.hid (show TX w wu total (innerD (d' + 1)) most q (k + 1 + bb.2) (nn + 1) (f - 1) (sb ++ [59, 32] ++ partX (d % 9) gt bb.1.text) by
            have h9 := HX.out.step hkq (by have := HMM.out; omega) HQK.out HBB.out (w2 := wu) (HX.out.bel.trans (HW2.out.mono HX.out.bel.size))
            rw [hjn, hnn, HGT.out] at h9
            exact h9)
          have hnew : (sb ++ [59, 32] ++ partX (d % 9) gt bb.1.text).length ≤ 900000 := by
            have := join_len (sb ++ [59, 32] ++ partX (d % 9) gt bb.1.text) (nn + 1) (loopP (innerD (d' + 1)) most (f - 1) (nn + 1) ((q.drop (k + 1 + bb.2)).map (·.1))).1
            rw [← ST.out.text] at this
            omega
          have hpx : (bt (partX (d % 9) gt bb.1.text)).size ≤ 900000 := by
            show (partX (d % 9) gt bb.1.text).toArray.size ≤ 900000
            rw [List.length_append] at hnew
            simp only [List.size_toArray]
            omega
          have O1 := Lib.hid (one_any_ (d % 9) (by omega) ((d : Int) % 9) (by omega) gt bb.1.text (by omega) hbl2 wu)
          clear hjn hnn h8 hn0
          go_wp2_with fail
          ((with_reducible refine O1.out.mono ?_); rintro e wv ⟨rfl, rfl⟩)
          clear O1
          go_wp2
          go_roundw
          case rel => exact ⟨k + 1 + bb.2, nn + 1, f - 1, sb ++ [59, 32] ++ partX (d % 9) gt bb.1.text, by omega, by omega, (by first | go_num | (congr 1; omega)), by go_num, congrArg Value.string (Lx.bytes_ext (by simp [bt_data, ByteArray.data_append])), ST⟩
          case measure => simp [intOf]; omega
    · have w78 : decide ((d : Int) % 9 < 7) = false ∨ (decide ((d : Int) % 9 < 7) = true ∧ decide (0 < D) = false) := by
        by_cases h7 : d % 9 < 7
        · exact .inr ⟨decide_eq_true (by omega), decide_eq_false (by have := HDD.out; omega)⟩
        · exact .inl (decide_eq_false (by omega))
      have HBB := Lib.hid (show ((.nil, 0) : Bx × Nat) = if d % 9 < 7 then innerD dd ((q.drop (k + 1)).map (·.1)) else (.nil, 0) by
        split
        · rename_i h7
          have : dd = 0 := by omega
          rw [HI0.out this]
        · rfl)
      obtain ⟨bb, hbb⟩ : ∃ b : Bx × Nat, b = (.nil, 0) := ⟨_, rfl⟩
      replace HBB := Lib.hid (show bb = if d % 9 < 7 then innerD dd ((q.drop (k + 1)).map (·.1)) else (.nil, 0) by rw [hbb]; exact HBB.out)
      have HBE := Lib.hid (show bb.1.text = [] by rw [hbb]; rfl)
      have HBZ := Lib.hid (show bb.2 = 0 by rw [hbb])
      have hbz : bb.2 ≤ 0 := by rw [hbb]; exact Nat.le_refl _
      clear hbb
      rcases w78 with w7 | ⟨w7, w8⟩
      · by_cases hn0 : nn = 0
        · have n0_ : ¬ (0 : Int) < (nn : Int) := by omega
          have hjn : (if nn = 0 then sb else sb ++ [59, 32]) = sb := if_pos hn0
          by_cases h8 : d % 9 = 8
          · have e8_ : ((d : Int) % 9 == 8) = true := by rw [beq_iff_eq]; omega
            have hnn : (if d % 9 = 8 then nn + 2 else nn + 1) = nn + 2 := if_pos h8
            have ST := Lib.hid (show TX w wy total (innerD dd) most q (k + 1 + bb.2) (nn + 2) (f - 1) (sb ++ partX (d % 9) gt bb.1.text) by
              have h9 := HX.out.step hkq (by have := HMM.out; omega) HQK.out HBB.out (w2 := wy) (HX.out.bel.trans (HW.out.mono HX.out.bel.size))
              rw [hjn, hnn, HGT.out] at h9
              exact h9)
            have hnew : (sb ++ partX (d % 9) gt bb.1.text).length ≤ 900000 := by
              have := join_len (sb ++ partX (d % 9) gt bb.1.text) (nn + 2) (loopP (innerD dd) most (f - 1) (nn + 2) ((q.drop (k + 1 + bb.2)).map (·.1))).1
              rw [← ST.out.text] at this
              omega
            have hpx : (bt (partX (d % 9) gt bb.1.text)).size ≤ 900000 := by
              show (partX (d % 9) gt bb.1.text).toArray.size ≤ 900000
              rw [List.length_append] at hnew
              simp only [List.size_toArray]
              omega
            have O1 := Lib.hid (show Calls Try.prog 21 #[.int .u8 ((d : Int) % 9), .string (bt gt), .string ⟨#[]⟩] wy (fun r w' => r = .returned (.string (bt (partX (d % 9) gt bb.1.text))) ∧ wy = w') by rw [HBE.out]; exact one_any_ (d % 9) (by omega) ((d : Int) % 9) (by omega) gt [] (by omega) (by decide) wy)
            clear hjn hnn h8 hn0
            go_wp2_with fail
            ((with_reducible refine O1.out.mono ?_); rintro e wv ⟨rfl, rfl⟩)
            clear O1
            go_wp2
            go_roundw
            case rel => exact ⟨k + 1 + bb.2, nn + 2, f - 1, sb ++ partX (d % 9) gt bb.1.text, by omega, by omega, (by rw [HBZ.out]; first | go_num | (congr 1; omega)), by go_num, congrArg Value.string (Lx.bytes_ext (by simp [bt_data, ByteArray.data_append])), ST⟩
            case measure => simp [intOf]; omega
          · have e8_ : ((d : Int) % 9 == 8) = false := by rw [beq_eq_false_iff_ne]; omega
            have hnn : (if d % 9 = 8 then nn + 2 else nn + 1) = nn + 1 := if_neg h8
            have ST := Lib.hid (show TX w wy total (innerD dd) most q (k + 1 + bb.2) (nn + 1) (f - 1) (sb ++ partX (d % 9) gt bb.1.text) by
              have h9 := HX.out.step hkq (by have := HMM.out; omega) HQK.out HBB.out (w2 := wy) (HX.out.bel.trans (HW.out.mono HX.out.bel.size))
              rw [hjn, hnn, HGT.out] at h9
              exact h9)
            have hnew : (sb ++ partX (d % 9) gt bb.1.text).length ≤ 900000 := by
              have := join_len (sb ++ partX (d % 9) gt bb.1.text) (nn + 1) (loopP (innerD dd) most (f - 1) (nn + 1) ((q.drop (k + 1 + bb.2)).map (·.1))).1
              rw [← ST.out.text] at this
              omega
            have hpx : (bt (partX (d % 9) gt bb.1.text)).size ≤ 900000 := by
              show (partX (d % 9) gt bb.1.text).toArray.size ≤ 900000
              rw [List.length_append] at hnew
              simp only [List.size_toArray]
              omega
            have O1 := Lib.hid (show Calls Try.prog 21 #[.int .u8 ((d : Int) % 9), .string (bt gt), .string ⟨#[]⟩] wy (fun r w' => r = .returned (.string (bt (partX (d % 9) gt bb.1.text))) ∧ wy = w') by rw [HBE.out]; exact one_any_ (d % 9) (by omega) ((d : Int) % 9) (by omega) gt [] (by omega) (by decide) wy)
            clear hjn hnn h8 hn0
            go_wp2_with fail
            ((with_reducible refine O1.out.mono ?_); rintro e wv ⟨rfl, rfl⟩)
            clear O1
            go_wp2
            go_roundw
            case rel => exact ⟨k + 1 + bb.2, nn + 1, f - 1, sb ++ partX (d % 9) gt bb.1.text, by omega, by omega, (by rw [HBZ.out]; first | go_num | (congr 1; omega)), by go_num, congrArg Value.string (Lx.bytes_ext (by simp [bt_data, ByteArray.data_append])), ST⟩
            case measure => simp [intOf]; omega
        · have n0_ : (0 : Int) < (nn : Int) := by omega
          have hjn : (if nn = 0 then sb else sb ++ [59, 32]) = sb ++ [59, 32] := if_neg hn0
          by_cases h8 : d % 9 = 8
          · have e8_ : ((d : Int) % 9 == 8) = true := by rw [beq_iff_eq]; omega
            have hnn : (if d % 9 = 8 then nn + 2 else nn + 1) = nn + 2 := if_pos h8
            have ST := Lib.hid (show TX w wy total (innerD dd) most q (k + 1 + bb.2) (nn + 2) (f - 1) (sb ++ [59, 32] ++ partX (d % 9) gt bb.1.text) by
              have h9 := HX.out.step hkq (by have := HMM.out; omega) HQK.out HBB.out (w2 := wy) (HX.out.bel.trans (HW.out.mono HX.out.bel.size))
              rw [hjn, hnn, HGT.out] at h9
              exact h9)
            have hnew : (sb ++ [59, 32] ++ partX (d % 9) gt bb.1.text).length ≤ 900000 := by
              have := join_len (sb ++ [59, 32] ++ partX (d % 9) gt bb.1.text) (nn + 2) (loopP (innerD dd) most (f - 1) (nn + 2) ((q.drop (k + 1 + bb.2)).map (·.1))).1
              rw [← ST.out.text] at this
              omega
            have hpx : (bt (partX (d % 9) gt bb.1.text)).size ≤ 900000 := by
              show (partX (d % 9) gt bb.1.text).toArray.size ≤ 900000
              rw [List.length_append] at hnew
              simp only [List.size_toArray]
              omega
            have O1 := Lib.hid (show Calls Try.prog 21 #[.int .u8 ((d : Int) % 9), .string (bt gt), .string ⟨#[]⟩] wy (fun r w' => r = .returned (.string (bt (partX (d % 9) gt bb.1.text))) ∧ wy = w') by rw [HBE.out]; exact one_any_ (d % 9) (by omega) ((d : Int) % 9) (by omega) gt [] (by omega) (by decide) wy)
            clear hjn hnn h8 hn0
            go_wp2_with fail
            ((with_reducible refine O1.out.mono ?_); rintro e wv ⟨rfl, rfl⟩)
            clear O1
            go_wp2
            go_roundw
            case rel => exact ⟨k + 1 + bb.2, nn + 2, f - 1, sb ++ [59, 32] ++ partX (d % 9) gt bb.1.text, by omega, by omega, (by rw [HBZ.out]; first | go_num | (congr 1; omega)), by go_num, congrArg Value.string (Lx.bytes_ext (by simp [bt_data, ByteArray.data_append])), ST⟩
            case measure => simp [intOf]; omega
          · have e8_ : ((d : Int) % 9 == 8) = false := by rw [beq_eq_false_iff_ne]; omega
            have hnn : (if d % 9 = 8 then nn + 2 else nn + 1) = nn + 1 := if_neg h8
            have ST := Lib.hid (show TX w wy total (innerD dd) most q (k + 1 + bb.2) (nn + 1) (f - 1) (sb ++ [59, 32] ++ partX (d % 9) gt bb.1.text) by
              have h9 := HX.out.step hkq (by have := HMM.out; omega) HQK.out HBB.out (w2 := wy) (HX.out.bel.trans (HW.out.mono HX.out.bel.size))
              rw [hjn, hnn, HGT.out] at h9
              exact h9)
            have hnew : (sb ++ [59, 32] ++ partX (d % 9) gt bb.1.text).length ≤ 900000 := by
              have := join_len (sb ++ [59, 32] ++ partX (d % 9) gt bb.1.text) (nn + 1) (loopP (innerD dd) most (f - 1) (nn + 1) ((q.drop (k + 1 + bb.2)).map (·.1))).1
              rw [← ST.out.text] at this
              omega
            have hpx : (bt (partX (d % 9) gt bb.1.text)).size ≤ 900000 := by
              show (partX (d % 9) gt bb.1.text).toArray.size ≤ 900000
              rw [List.length_append] at hnew
              simp only [List.size_toArray]
              omega
            have O1 := Lib.hid (show Calls Try.prog 21 #[.int .u8 ((d : Int) % 9), .string (bt gt), .string ⟨#[]⟩] wy (fun r w' => r = .returned (.string (bt (partX (d % 9) gt bb.1.text))) ∧ wy = w') by rw [HBE.out]; exact one_any_ (d % 9) (by omega) ((d : Int) % 9) (by omega) gt [] (by omega) (by decide) wy)
            clear hjn hnn h8 hn0
            go_wp2_with fail
            ((with_reducible refine O1.out.mono ?_); rintro e wv ⟨rfl, rfl⟩)
            clear O1
            go_wp2
            go_roundw
            case rel => exact ⟨k + 1 + bb.2, nn + 1, f - 1, sb ++ [59, 32] ++ partX (d % 9) gt bb.1.text, by omega, by omega, (by rw [HBZ.out]; first | go_num | (congr 1; omega)), by go_num, congrArg Value.string (Lx.bytes_ext (by simp [bt_data, ByteArray.data_append])), ST⟩
            case measure => simp [intOf]; omega
      · by_cases hn0 : nn = 0
        · have n0_ : ¬ (0 : Int) < (nn : Int) := by omega
          have hjn : (if nn = 0 then sb else sb ++ [59, 32]) = sb := if_pos hn0
          by_cases h8 : d % 9 = 8
          · have e8_ : ((d : Int) % 9 == 8) = true := by rw [beq_iff_eq]; omega
            have hnn : (if d % 9 = 8 then nn + 2 else nn + 1) = nn + 2 := if_pos h8
            have ST := Lib.hid (show TX w wy total (innerD dd) most q (k + 1 + bb.2) (nn + 2) (f - 1) (sb ++ partX (d % 9) gt bb.1.text) by
              have h9 := HX.out.step hkq (by have := HMM.out; omega) HQK.out HBB.out (w2 := wy) (HX.out.bel.trans (HW.out.mono HX.out.bel.size))
              rw [hjn, hnn, HGT.out] at h9
              exact h9)
            have hnew : (sb ++ partX (d % 9) gt bb.1.text).length ≤ 900000 := by
              have := join_len (sb ++ partX (d % 9) gt bb.1.text) (nn + 2) (loopP (innerD dd) most (f - 1) (nn + 2) ((q.drop (k + 1 + bb.2)).map (·.1))).1
              rw [← ST.out.text] at this
              omega
            have hpx : (bt (partX (d % 9) gt bb.1.text)).size ≤ 900000 := by
              show (partX (d % 9) gt bb.1.text).toArray.size ≤ 900000
              rw [List.length_append] at hnew
              simp only [List.size_toArray]
              omega
            have O1 := Lib.hid (show Calls Try.prog 21 #[.int .u8 ((d : Int) % 9), .string (bt gt), .string ⟨#[]⟩] wy (fun r w' => r = .returned (.string (bt (partX (d % 9) gt bb.1.text))) ∧ wy = w') by rw [HBE.out]; exact one_any_ (d % 9) (by omega) ((d : Int) % 9) (by omega) gt [] (by omega) (by decide) wy)
            clear hjn hnn h8 hn0
            go_wp2_with fail
            ((with_reducible refine O1.out.mono ?_); rintro e wv ⟨rfl, rfl⟩)
            clear O1
            go_wp2
            go_roundw
            case rel => exact ⟨k + 1 + bb.2, nn + 2, f - 1, sb ++ partX (d % 9) gt bb.1.text, by omega, by omega, (by rw [HBZ.out]; first | go_num | (congr 1; omega)), by go_num, congrArg Value.string (Lx.bytes_ext (by simp [bt_data, ByteArray.data_append])), ST⟩
            case measure => simp [intOf]; omega
          · have e8_ : ((d : Int) % 9 == 8) = false := by rw [beq_eq_false_iff_ne]; omega
            have hnn : (if d % 9 = 8 then nn + 2 else nn + 1) = nn + 1 := if_neg h8
            have ST := Lib.hid (show TX w wy total (innerD dd) most q (k + 1 + bb.2) (nn + 1) (f - 1) (sb ++ partX (d % 9) gt bb.1.text) by
              have h9 := HX.out.step hkq (by have := HMM.out; omega) HQK.out HBB.out (w2 := wy) (HX.out.bel.trans (HW.out.mono HX.out.bel.size))
              rw [hjn, hnn, HGT.out] at h9
              exact h9)
            have hnew : (sb ++ partX (d % 9) gt bb.1.text).length ≤ 900000 := by
              have := join_len (sb ++ partX (d % 9) gt bb.1.text) (nn + 1) (loopP (innerD dd) most (f - 1) (nn + 1) ((q.drop (k + 1 + bb.2)).map (·.1))).1
              rw [← ST.out.text] at this
              omega
            have hpx : (bt (partX (d % 9) gt bb.1.text)).size ≤ 900000 := by
              show (partX (d % 9) gt bb.1.text).toArray.size ≤ 900000
              rw [List.length_append] at hnew
              simp only [List.size_toArray]
              omega
            have O1 := Lib.hid (show Calls Try.prog 21 #[.int .u8 ((d : Int) % 9), .string (bt gt), .string ⟨#[]⟩] wy (fun r w' => r = .returned (.string (bt (partX (d % 9) gt bb.1.text))) ∧ wy = w') by rw [HBE.out]; exact one_any_ (d % 9) (by omega) ((d : Int) % 9) (by omega) gt [] (by omega) (by decide) wy)
            clear hjn hnn h8 hn0
            go_wp2_with fail
            ((with_reducible refine O1.out.mono ?_); rintro e wv ⟨rfl, rfl⟩)
            clear O1
            go_wp2
            go_roundw
            case rel => exact ⟨k + 1 + bb.2, nn + 1, f - 1, sb ++ partX (d % 9) gt bb.1.text, by omega, by omega, (by rw [HBZ.out]; first | go_num | (congr 1; omega)), by go_num, congrArg Value.string (Lx.bytes_ext (by simp [bt_data, ByteArray.data_append])), ST⟩
            case measure => simp [intOf]; omega
        · have n0_ : (0 : Int) < (nn : Int) := by omega
          have hjn : (if nn = 0 then sb else sb ++ [59, 32]) = sb ++ [59, 32] := if_neg hn0
          by_cases h8 : d % 9 = 8
          · have e8_ : ((d : Int) % 9 == 8) = true := by rw [beq_iff_eq]; omega
            have hnn : (if d % 9 = 8 then nn + 2 else nn + 1) = nn + 2 := if_pos h8
            have ST := Lib.hid (show TX w wy total (innerD dd) most q (k + 1 + bb.2) (nn + 2) (f - 1) (sb ++ [59, 32] ++ partX (d % 9) gt bb.1.text) by
              have h9 := HX.out.step hkq (by have := HMM.out; omega) HQK.out HBB.out (w2 := wy) (HX.out.bel.trans (HW.out.mono HX.out.bel.size))
              rw [hjn, hnn, HGT.out] at h9
              exact h9)
            have hnew : (sb ++ [59, 32] ++ partX (d % 9) gt bb.1.text).length ≤ 900000 := by
              have := join_len (sb ++ [59, 32] ++ partX (d % 9) gt bb.1.text) (nn + 2) (loopP (innerD dd) most (f - 1) (nn + 2) ((q.drop (k + 1 + bb.2)).map (·.1))).1
              rw [← ST.out.text] at this
              omega
            have hpx : (bt (partX (d % 9) gt bb.1.text)).size ≤ 900000 := by
              show (partX (d % 9) gt bb.1.text).toArray.size ≤ 900000
              rw [List.length_append] at hnew
              simp only [List.size_toArray]
              omega
            have O1 := Lib.hid (show Calls Try.prog 21 #[.int .u8 ((d : Int) % 9), .string (bt gt), .string ⟨#[]⟩] wy (fun r w' => r = .returned (.string (bt (partX (d % 9) gt bb.1.text))) ∧ wy = w') by rw [HBE.out]; exact one_any_ (d % 9) (by omega) ((d : Int) % 9) (by omega) gt [] (by omega) (by decide) wy)
            clear hjn hnn h8 hn0
            go_wp2_with fail
            ((with_reducible refine O1.out.mono ?_); rintro e wv ⟨rfl, rfl⟩)
            clear O1
            go_wp2
            go_roundw
            case rel => exact ⟨k + 1 + bb.2, nn + 2, f - 1, sb ++ [59, 32] ++ partX (d % 9) gt bb.1.text, by omega, by omega, (by rw [HBZ.out]; first | go_num | (congr 1; omega)), by go_num, congrArg Value.string (Lx.bytes_ext (by simp [bt_data, ByteArray.data_append])), ST⟩
            case measure => simp [intOf]; omega
          · have e8_ : ((d : Int) % 9 == 8) = false := by rw [beq_eq_false_iff_ne]; omega
            have hnn : (if d % 9 = 8 then nn + 2 else nn + 1) = nn + 1 := if_neg h8
            have ST := Lib.hid (show TX w wy total (innerD dd) most q (k + 1 + bb.2) (nn + 1) (f - 1) (sb ++ [59, 32] ++ partX (d % 9) gt bb.1.text) by
              have h9 := HX.out.step hkq (by have := HMM.out; omega) HQK.out HBB.out (w2 := wy) (HX.out.bel.trans (HW.out.mono HX.out.bel.size))
              rw [hjn, hnn, HGT.out] at h9
              exact h9)
            have hnew : (sb ++ [59, 32] ++ partX (d % 9) gt bb.1.text).length ≤ 900000 := by
              have := join_len (sb ++ [59, 32] ++ partX (d % 9) gt bb.1.text) (nn + 1) (loopP (innerD dd) most (f - 1) (nn + 1) ((q.drop (k + 1 + bb.2)).map (·.1))).1
              rw [← ST.out.text] at this
              omega
            have hpx : (bt (partX (d % 9) gt bb.1.text)).size ≤ 900000 := by
              show (partX (d % 9) gt bb.1.text).toArray.size ≤ 900000
              rw [List.length_append] at hnew
              simp only [List.size_toArray]
              omega
            have O1 := Lib.hid (show Calls Try.prog 21 #[.int .u8 ((d : Int) % 9), .string (bt gt), .string ⟨#[]⟩] wy (fun r w' => r = .returned (.string (bt (partX (d % 9) gt bb.1.text))) ∧ wy = w') by rw [HBE.out]; exact one_any_ (d % 9) (by omega) ((d : Int) % 9) (by omega) gt [] (by omega) (by decide) wy)
            clear hjn hnn h8 hn0
            go_wp2_with fail
            ((with_reducible refine O1.out.mono ?_); rintro e wv ⟨rfl, rfl⟩)
            clear O1
            go_wp2
            go_roundw
            case rel => exact ⟨k + 1 + bb.2, nn + 1, f - 1, sb ++ [59, 32] ++ partX (d % 9) gt bb.1.text, by omega, by omega, (by rw [HBZ.out]; first | go_num | (congr 1; omega)), by go_num, congrArg Value.string (Lx.bytes_ext (by simp [bt_data, ByteArray.data_append])), ST⟩
            case measure => simp [intOf]; omega
end Go.Proofs.Ytecmjhohniipoaa.St

end

section
namespace Go.Proofs.Ytecmjhohniipoaa.St
theorem text_any : ∀ d, d ≤ 4 → TextIH d
  | 0, h => text_step 0 (by omega) (fun d' h' => absurd h' (by omega))
  | d + 1, h => text_step (d + 1) h (fun d' h' => by
      obtain rfl : d' = d := by omega
      exact text_any d' (by omega))
end Go.Proofs.Ytecmjhohniipoaa.St

end

section
namespace Go.Proofs.Ytecmjhohniipoaa.Ex
open Go.RowKit
open Tr (Nd Fo RepS RepN Rep)
open Lx (Tk noTk Blk run_store_complexL TokAt)
open Fl
attribute [local go_sem] run_store_complexL
structure QInv (w0 w : World) (br : Nat) (A : Option Addr) (c : Nat) (L : List PT) (i : Nat) (bad : Bool) : Prop where
  row : Blk w br 55 #[.slice A L.length c, .int .i64 i, .bool bad]
  grown : w0.grownBy w (some br)
section
variable {w0 w w' : World} {br c i : Nat} {A : Option Addr} {L : List PT} {bad : Bool}
theorem QInv.below (h : QInv w0 w br A c L i bad) (hb : Below w.heap.size w w') : QInv w0 w' br A c L i bad :=
  ⟨h.row.below hb h.row.lt, grown_trans h.grown (grown_of_below hb _)⟩
theorem QInv.tok (h : QInv w0 w br A c L i bad) (ht : Toks w0 br A L) {k : Nat} (hk : k < L.length) : ∃ g off, A = some ⟨g, off, none⟩ ∧ ∀ j, j < 5 → w.cell? ⟨g, off + k * 5 + j, none⟩ = (PT.vals L[k])[j]? := by
  obtain ⟨⟨g, off, sp⟩, e, hlt, hc⟩ := ht.reads.2 (by omega)
  have hl := flatP_len L
  have hget : ∀ m, m < L.length * 5 → ∃ u, (flatP L)[m]? = some u := fun m hm => ⟨(flatP L)[m]'(by omega), List.getElem?_eq_getElem (by omega)⟩
  have hs : sp = none := by
    obtain ⟨u, hu⟩ := hget 0 (by omega)
    have := World.cell?_spot (hc 0 u hu)
    simpa [Addr.add] using this
  subst hs
  refine ⟨g, off, e, fun j hj => ?_⟩
  rw [← flatP_at L k j hk hj]
  obtain ⟨u, hu⟩ := hget (k * 5 + j) (by omega)
  rw [hu, ← hc _ u hu]
  have ha : (⟨g, off, none⟩ : Addr).add (k * 5 + j) = ⟨g, off + k * 5 + j, none⟩ := by unfold Addr.add; split <;> simp_all [Nat.add_assoc]
  rw [ha]
  have hne := ht.far _ e
  exact World.cell?_of_block (h.grown.block g hlt (fun e => hne (by simpa using e)))
theorem QInv.at_ (h : QInv w0 w br A c L i bad) : w.cell? ⟨br, 1, none⟩ = some (.int .i64 i) ∧ w.frozen? ⟨br, 1, none⟩ = false ∧ w.cell? ⟨br, 2, none⟩ = some (.bool bad) ∧ w.frozen? ⟨br, 2, none⟩ = false ∧ br < w.heap.size := ⟨h.row.cell 1, h.row.frozen 1, h.row.cell 2, h.row.frozen 2, h.row.lt⟩
theorem QInv.set_ (h : QInv w0 w br A c L i bad) (j : Nat) : QInv w0 (w.setCell ⟨br, 1, none⟩ (.int .i64 j)) br A c L j bad ∧ w.grownBy (w.setCell ⟨br, 1, none⟩ (.int .i64 j)) (some br) := by
  have hg := Lx.grown_set w br 1 (.int .i64 j)
  refine ⟨⟨?_, grown_trans h.grown hg⟩, hg⟩
  have := h.row.set_ 1 (.int .i64 j)
  simpa using this
end
end Go.Proofs.Ytecmjhohniipoaa.Ex
namespace Go.Proofs.Ytecmjhohniipoaa.Ex
open Go.RowKit
open Tr (Nd Fo RepS RepN Rep cellsN)
open Lx (Tk noTk run_store_complexL TokAt)
open Fl
attribute [local go_sem] run_store_complexL
structure NB (w0 w : World) (b : Nat) (d : Nd) (sv : Value) (xs : List Value) : Prop where
  blk : Tr.Blk w b 42 (cellsN d sv)
  own : w.ownsRow w0.heap.size 26 1 sv xs.length xs
  low : w0.heap.size ≤ b
  bel : Below w0.heap.size w0 w
theorem NB.step {w0 W w1 : World} {b g cap : Nat} {d : Nd} {sv v : Value} {xs : List Value} (h : NB w0 W b d sv xs)
    (hown : w1.ownsRow w0.heap.size 26 1 (.slice (some ⟨g, 0, none⟩) (xs.length + 1) cap) (xs.length + 1) (xs ++ [v])) (hg : W.grownBy w1 sv.ownBlock) :
    NB w0 (w1.setCell ⟨b, 4, none⟩ (.slice (some ⟨g, 0, none⟩) (xs.length + 1) cap)) b d (.slice (some ⟨g, 0, none⟩) (xs.length + 1) cap) (xs ++ [v]) := by
  obtain ⟨h1, h2, h4, h5⟩ := h
  have hne : sv.ownBlock ≠ some b := Tr.own_blk_ne h2 h1 (by decide)
  have hb1 : Tr.Blk w1 b 42 (cellsN d sv) := h1.grown hg (fun e => hne e.symm)
  have hgb : g ≠ b := by
    have := Tr.own_blk_ne hown hb1 (by decide)
    intro e; subst e; exact this rfl
  have hb5 : Below w0.heap.size w0 w1 := h5.grown hg h5.size (fun k hk => (h2.lt k hk).1)
  refine ⟨?_, ?_, h4, hb5.setCell h4 _⟩
  · have := hb1.set_ 4 (.slice (some ⟨g, 0, none⟩) (xs.length + 1) cap)
    rwa [Tr.cellsN_set] at this
  · rw [List.length_append, List.length_singleton]
    exact hown.kept (Tr.setCell_grown _ _ _) (.inr (by show some g ≠ some b; simpa using hgb))
theorem NB.alloc {w0 W : World} {b : Nat} {d : Nd} {sv : Value} {xs : List Value} (h : NB w0 W b d sv xs) (o : Obj) : NB w0 (W.alloc o) b d sv xs :=
  ⟨h.blk.alloc o, h.own.alloc o, h.low, h.bel.alloc h.bel.size o⟩
theorem NB.start (w : World) (d : Nd) : NB w (w.alloc (.cells (cellsN d (.slice none 0 0)) 42)) w.heap.size d (.slice none 0 0) [] :=
  ⟨Tr.Blk.new _ _ _, ⟨by simp, .inl ⟨rfl, rfl⟩⟩, Nat.le_refl _, (Below.refl _ _).alloc (Nat.le_refl _) _⟩
end Go.Proofs.Ytecmjhohniipoaa.Ex
namespace Go.Proofs.Ytecmjhohniipoaa.Ex
open Go.RowKit
open Tr (Nd Fo RepS RepN Rep cellsN)
open Lx (Tk noTk Blk run_store_complexL TokAt)
open Fl
attribute [local go_sem] run_store_complexL run_field1 run_field3
structure OKTk (t : Tk) : Prop where
  word : t.kind = 6 → Lx.isL (t.text.data.toList.head?.getD 0) = true
  sym : t.kind = 5 → Lx.isL (t.text.data.toList.head?.getD 0) = false
  num : t.kind = 2 ∨ t.kind = 3 → t.text = sNil
  str : t.kind = 4 → t.n = 0
def OKRow (L : List PT) : Prop := ∀ i, OKTk (tk L i).1
structure QG (w0 w w1 : World) (br : Nat) (A : Option Addr) (c : Nat) (L : List PT) (i : Nat) (bad : Bool) : Prop where
  inv : QInv w0 w1 br A c L i bad
  since : w.grownBy w1 (some br)
section
variable {w0 w w1 w2 : World} {br c i j : Nat} {A : Option Addr} {L : List PT} {bad bad' : Bool}
theorem QG.below (h : QG w0 w w1 br A c L i bad) (hb : Below w1.heap.size w1 w2) : QG w0 w w2 br A c L i bad := ⟨h.1.below hb, grown_trans h.2 (grown_of_below hb _)⟩
theorem QG.trans (h : QG w0 w w1 br A c L i bad) (h2 : QInv w0 w2 br A c L j bad' ∧ w1.grownBy w2 (some br)) : QG w0 w w2 br A c L j bad' := ⟨h2.1, grown_trans h.2 h2.2⟩
theorem QG.start (h : QInv w0 w br A c L i bad) : QG w0 w w br A c L i bad := ⟨h, ⟨rfl, rfl, rfl, Nat.le_refl _, fun _ _ _ => rfl⟩⟩
theorem QG.alloc (h : QG w0 w w1 br A c L i bad) (o : Obj) : QG w0 w (w1.alloc o) br A c L i bad := h.below ((Below.refl _ _).alloc (Nat.le_refl _) _)
theorem QG.set_ (h : QG w0 w w1 br A c L i bad) (j : Nat) : QG w0 w (w1.setCell ⟨br, 1, none⟩ (.int .i64 j)) br A c L j bad := ⟨(h.1.set_ j).1, grown_trans h.2 (h.1.set_ j).2⟩
end
theorem QInv.atw {w0 w : World} {br c i : Nat} {A : Option Addr} {L : List PT} {bad : Bool} (h : QInv w0 w br A c L i bad) : atW w br = i := by
  unfold atW
  rw [show w.cell? ⟨br, 1, none⟩ = some (.int .i64 i) from h.row.cell 1]
  rfl
def RefR (B : Nat) (w0 w : World) (br : Nat) (A : Option Addr) (c : Nat) (L : List PT) (r : Except Nat (T1 × Nat)) (e : Ending) (w' : World) : Prop := match r with
  | .ok (x, j) => ∃ b, e = .returned (.pointer (some ⟨b, 0, none⟩)) ∧ QInv w0 w' br A c L j false ∧ w.grownBy w' (some br) ∧ RepS (fun y => B ≤ y) w' (.node x.1 x.2 .no) [.pointer (some ⟨b, 0, none⟩)]
  | .error k => ∃ p, e = .returned (.pointer p) ∧ QInv w0 w' br A c L k true ∧ w.grownBy w' (some br)
section
variable {w0 : World} {br c i : Nat} {A : Option Addr} {L : List PT} (ht : Toks w0 br A L) (hi : i ≤ 900000) (s : ByteArray) (w : World)
include ht hi
end
end Go.Proofs.Ytecmjhohniipoaa.Ex
namespace Go.Proofs.Ytecmjhohniipoaa.Ex
open Go.RowKit
open Tr (Nd Fo RepS RepN Rep cellsN)
open Lx (Tk noTk Blk run_store_complexL TokAt)
open Fl
attribute [local go_sem] run_store_complexL run_field1 run_field3
end Go.Proofs.Ytecmjhohniipoaa.Ex

end

section
namespace Go.Proofs.Ytecmjhohniipoaa.Ex
open Go.RowKit
open Tr (Nd Fo RepS RepN Rep cellsN)
open Lx (Tk noTk Blk run_store_complexL TokAt)
open Fl
attribute [local go_sem] run_store_complexL run_field1 run_field3
def LS (w0 w : World) (br : Nat) (A : Option Addr) (c : Nat) (L : List PT) (res : Except Nat (T1 × Nat)) (G : T1 → Nat → Prop) (p : Option Addr) (wr : World) : Prop :=
  (∃ (x : T1) (b j : Nat), p = some ⟨b, 0, none⟩ ∧ j ≤ L.length ∧ QG w0 w wr br A c L j false ∧ RepS (fun y => w.heap.size ≤ y) wr (.node x.1 x.2 .no) [.pointer (some ⟨b, 0, none⟩)] ∧ G x j) ∨
  (∃ k, k ≤ 80000 ∧ QG w0 w wr br A c L k true ∧ res = .error k)
theorem LS.hung {w0 w wr : World} {br c : Nat} {A : Option Addr} {L : List PT} {res : Except Nat (T1 × Nat)} {G : T1 → Nat → Prop} {p : Option Addr} {k : Nat} (h : QG w0 w wr br A c L k true) (hr : res = .error k) (hk : k ≤ 80000) : LS w0 w br A c L res G p wr := .inr ⟨k, hk, h, hr⟩
end Go.Proofs.Ytecmjhohniipoaa.Ex

end

section
namespace Go.Proofs.Ytecmjhohniipoaa.Ex
open Go.RowKit
open Tr (Nd Fo RepS RepN Rep cellsN)
open Lx (Tk noTk Blk run_store_complexL TokAt)
open Fl
attribute [local go_sem] run_store_complexL run_field1 run_field3
end Go.Proofs.Ytecmjhohniipoaa.Ex
namespace Go.Proofs.Ytecmjhohniipoaa.Ex
open Go.RowKit
open Tr (Nd Fo RepS RepN Rep cellsN)
open Lx (Tk noTk Blk run_store_complexL TokAt)
open Fl
attribute [local go_sem] run_store_complexL run_field1 run_field3
end Go.Proofs.Ytecmjhohniipoaa.Ex
namespace Go.Proofs.Ytecmjhohniipoaa.Ex
open Go.RowKit
open Tr (Nd Fo RepS RepN Rep cellsN)
open Lx (Tk noTk Blk run_store_complexL TokAt)
open Fl
attribute [local go_sem] run_store_complexL run_field1 run_field3
structure MO (w wr : World) (lv : Value) (vs : List Value) : Prop where
  own : wr.ownsRow w.heap.size 26 1 lv vs.length vs
  one : ∀ v ∈ vs, v.oneCell' = true
section
variable {w0 w wr w1 w2 : World} {br c i i' : Nat} {A : Option Addr} {L : List PT} {lv : Value} {acc : List T1} {vs : List Value} {bad bad' : Bool}
theorem MO.grown (h : MO w wr lv vs) (hg : wr.grownBy w1 (some br)) (hbr : br < w.heap.size) : MO w w1 lv vs :=
  ⟨h.own.kept hg (.inr fun e => by have := (h.own.lt _ e).1; omega), h.one⟩
theorem MB.nil (w wr : World) : MB w wr (.slice none 0 0) [] [] := ⟨World.ownsRow_nil _ _ _ _, (by unfold forest; unfold RepS; rfl), rfl, fun v hv => by cases hv⟩
theorem MO.appended {p : Option Addr} {g cap : Nat} (h : MO w wr lv vs)
    (hown : w1.ownsRow w.heap.size 26 1 (.slice (some ⟨g, 0, none⟩) (vs.length + 1) cap) (vs.length + 1) (vs ++ [.pointer p])) :
    MO w w1 (.slice (some ⟨g, 0, none⟩) (vs.length + 1) cap) (vs ++ [.pointer p]) := by
  refine ⟨by rw [List.length_append]; exact hown, fun v hv => ?_⟩
  rcases List.mem_append.1 hv with hv | hv
  · exact h.one v hv
  · simp only [List.mem_singleton] at hv; subst hv; rfl
theorem QG.appended {o : Obj} {row : Option Nat} (h : QG w0 w wr br A c L i bad) (hw : QInv w0 w br A c L i' bad') (hg : (wr.alloc o).grownBy w1 row) (hr : ∀ k, row = some k → w.heap.size ≤ k) : QG w0 w w1 br A c L i bad := by
  have hl := hw.row.lt
  have hs := hw.grown.size
  have h' := h.alloc o
  have hk : ∀ (a : World), a.heap.size ≤ w.heap.size → a.grownBy (wr.alloc o) (some br) → a.grownBy w1 (some br) := fun a ha h =>
    ⟨hg.os.trans h.os, hg.tape.trans h.tape, hg.output.trans h.output, Nat.le_trans h.size hg.size, fun k hk hne => (hg.block k (Nat.lt_of_lt_of_le hk h.size) (fun e => by have := hr k e.symm; omega)).trans (h.block k hk hne)⟩
  exact ⟨⟨h'.1.row.grown hg (fun e => by have := hr _ e.symm; omega), hk w0 hs h'.1.grown⟩, hk w (Nat.le_refl _) h'.2⟩
def LM (w0 w : World) (br : Nat) (A : Option Addr) (c : Nat) (L : List PT) (res : Except Nat (List T1 × Nat)) (G : List T1 → Nat → Prop) (lv : Value) (wr : World) : Prop :=
  (∃ (acc : List T1) (vs : List Value) (j : Nat), j ≤ L.length ∧ acc.length ≤ j ∧ QG w0 w wr br A c L j false ∧ MB w wr lv acc vs ∧ G acc j) ∨
  (∃ (vs : List Value) (k : Nat), k ≤ 80000 ∧ vs.length ≤ 20002 ∧ QG w0 w wr br A c L k true ∧ MO w wr lv vs ∧ res = .error k)
theorem LM.hung {res : Except Nat (List T1 × Nat)} {G : List T1 → Nat → Prop} {k : Nat} (h : QG w0 w wr br A c L k true) (hb : MO w wr lv vs) (hv : vs.length ≤ 20002) (hr : res = .error k) (hk : k ≤ 80000) : LM w0 w br A c L res G lv wr := .inr ⟨vs, k, hk, hv, h, hb, hr⟩
end
end Go.Proofs.Ytecmjhohniipoaa.Ex
namespace Go.Proofs.Ytecmjhohniipoaa.Ex
open Go.RowKit
open Tr (Nd Fo RepS RepN Rep cellsN)
open Lx (Tk noTk Blk run_store_complexL TokAt)
open Fl
attribute [local go_sem] run_store_complexL run_field1 run_field3
structure KN (B : Nat) (w : World) (b : Nat) (d : Nd) (sv : Value) (xs : List Value) : Prop where
  blk : Tr.Blk w b 42 (cellsN d sv)
  own : w.ownsRow B 26 1 sv xs.length xs
  low : B ≤ b
section
variable {B B0 br b : Nat} {w w1 W : World} {d : Nd} {sv v : Value} {xs : List Value} {acc : List T1}
theorem NB.kn (h : NB w W b d sv xs) : KN w.heap.size W b d sv xs := ⟨h.blk, h.own, h.low⟩
theorem KN.grown (h : KN B w b d sv xs) (hg : w.grownBy w1 (some br)) (hbr : br < B) : KN B w1 b d sv xs :=
  ⟨h.blk.grown hg (fun e => by injection e with e; have := h.low; omega), h.own.kept hg (.inr fun e => by have := (h.own.lt _ e).1; omega), h.low⟩
theorem KN.below (h : KN B w b d sv xs) (hb : Below w.heap.size w w1) : KN B w1 b d sv xs :=
  ⟨h.blk.below hb h.blk.lt, h.own.kept (grown_of_below hb none) (by rcases h : sv.ownBlock with _ | g; exact .inl rfl; exact .inr (by simp)), h.low⟩
theorem KN.facts (h : KN B w b d sv xs) : w.cell? ⟨b, 4, none⟩ = some sv ∧ w.frozen? ⟨b, 4, none⟩ = false ∧ b < w.heap.size := ⟨h.blk.cell 4, h.blk.frozen 4, h.blk.lt⟩
theorem KN.step {g cap : Nat} (h : KN B W b d sv xs)
    (hown : w1.ownsRow B 26 1 (.slice (some ⟨g, 0, none⟩) (xs.length + 1) cap) (xs.length + 1) (xs ++ [v])) (hg : W.grownBy w1 sv.ownBlock) :
    KN B (w1.setCell ⟨b, 4, none⟩ (.slice (some ⟨g, 0, none⟩) (xs.length + 1) cap)) b d (.slice (some ⟨g, 0, none⟩) (xs.length + 1) cap) (xs ++ [v]) := by
  obtain ⟨h1, h2, h4⟩ := h
  have hne : sv.ownBlock ≠ some b := Tr.own_blk_ne h2 h1 (by decide)
  have hb1 : Tr.Blk w1 b 42 (cellsN d sv) := h1.grown hg (fun e => hne e.symm)
  have hgb : g ≠ b := by
    have := Tr.own_blk_ne hown hb1 (by decide)
    intro e; subst e; exact this rfl
  refine ⟨?_, ?_, h4⟩
  · have := hb1.set_ 4 (.slice (some ⟨g, 0, none⟩) (xs.length + 1) cap)
    rwa [Tr.cellsN_set] at this
  · rw [List.length_append, List.length_singleton]
    exact hown.kept (Tr.setCell_grown _ _ _) (.inr (by show some g ≠ some b; simpa using hgb))
structure KG (B0 B : Nat) (w : World) (b : Nat) (d : Nd) (sv : Value) (acc : List T1) (xs : List Value) : Prop where
  kn : KN B w b d sv xs
  rep : RepS (fun y => B0 ≤ y ∧ y ≠ b ∧ sv.ownBlock ≠ some y) w (forest acc) xs
  len : xs.length = acc.length
theorem KG.grown (h : KG B0 B w b d sv acc xs) (hg : w.grownBy w1 (some br)) (hbr : br < B0) (hB : B0 ≤ B) : KG B0 B w1 b d sv acc xs :=
  ⟨h.kn.grown hg (by omega), h.rep.keep hg.size (fun x hx hl => hg.block x hl (fun e => by injection e with e; have := hx.1; omega)) (fun x hx _ => hx), h.len⟩
theorem KG.below (h : KG B0 B w b d sv acc xs) (hb : Below w.heap.size w w1) : KG B0 B w1 b d sv acc xs := ⟨h.kn.below hb, h.rep.below hb, h.len⟩
theorem KG.step {g cap : Nat} {x : T1} (h : KG B0 B W b d sv acc xs) (hx : RepS (fun y => B0 ≤ y ∧ y ≠ b ∧ sv.ownBlock ≠ some y) W (.node x.1 x.2 .no) [v])
    (hown : w1.ownsRow B 26 1 (.slice (some ⟨g, 0, none⟩) (xs.length + 1) cap) (xs.length + 1) (xs ++ [v])) (hg : W.grownBy w1 sv.ownBlock) (hor : sv.ownBlock = some g ∨ g = W.heap.size) :
    KG B0 B (w1.setCell ⟨b, 4, none⟩ (.slice (some ⟨g, 0, none⟩) (xs.length + 1) cap)) b d (.slice (some ⟨g, 0, none⟩) (xs.length + 1) cap) (acc ++ [x]) (xs ++ [v]) := by
  refine ⟨h.kn.step hown hg, ?_, by rw [List.length_append, List.length_append, h.len]; rfl⟩
  have hS : ∀ y, (B0 ≤ y ∧ y ≠ b ∧ sv.ownBlock ≠ some y) → y < W.heap.size → (B0 ≤ y ∧ y ≠ b ∧ (Value.slice (some ⟨g, 0, none⟩) (xs.length + 1) cap).ownBlock ≠ some y) := by
    intro y hy hl
    obtain ⟨x1, x2, x3⟩ := hy
    refine ⟨x1, x2, ?_⟩
    show some g ≠ some y
    intro e
    injection e with e
    subst e
    rcases hor with hor | hor
    · exact x3 hor
    · omega
  have hkeep : ∀ y, (B0 ≤ y ∧ y ≠ b ∧ sv.ownBlock ≠ some y) → y < W.heap.size → (w1.setCell ⟨b, 4, none⟩ (.slice (some ⟨g, 0, none⟩) (xs.length + 1) cap)).heap[y]? = W.heap[y]? := by
    intro y hy hl
    obtain ⟨x1, x2, x3⟩ := hy
    rw [Below.heap_setCell w1 ⟨b, 4, none⟩ _ y x2]
    exact hg.block y hl (fun e => x3 e.symm)
  rw [forest_snoc]
  exact RepS.snoc (hx.keep (by simp; exact hg.size) hkeep hS) (h.rep.keep (by simp; exact hg.size) hkeep hS)
theorem KG.done (h : KG B0 B w b d sv acc xs) (hB : B0 ≤ B) : RepS (fun y => B0 ≤ y) w (.node d (forest acc) .no) [.pointer (some ⟨b, 0, none⟩)] :=
  RepS.mk h.kn.blk h.kn.own (h.rep.more fun x hx _ => hx.1) (Nat.le_trans hB h.kn.low) (fun g hg => Nat.le_trans hB (h.kn.own.lt g hg).1)
end
end Go.Proofs.Ytecmjhohniipoaa.Ex

end

section
namespace Go.Proofs.Ytecmjhohniipoaa.Ex
open Go.RowKit
open Tr (Nd Fo RepS RepN Rep cellsN)
open Lx (Tk noTk Blk run_store_complexL TokAt)
open Fl
attribute [local go_sem] run_store_complexL run_field1 run_field3
end Go.Proofs.Ytecmjhohniipoaa.Ex
namespace Go.Proofs.Ytecmjhohniipoaa.Ex
open Go.RowKit
open Tr (Nd Fo RepS RepN Rep cellsN)
open Lx (Tk noTk Blk run_store_complexL TokAt)
open Fl
attribute [local go_sem] run_store_complexL run_field1 run_field3
end Go.Proofs.Ytecmjhohniipoaa.Ex
namespace Go.Proofs.Ytecmjhohniipoaa.Ex
open Go.RowKit
open Tr (Nd Fo RepS RepN Rep cellsN)
open Lx (Tk noTk Blk run_store_complexL TokAt)
open Fl
attribute [local go_sem] run_store_complexL run_field1 run_field3
end Go.Proofs.Ytecmjhohniipoaa.Ex

end

section
namespace Go.Proofs.Ytecmjhohniipoaa.Ex
open Go.RowKit
open Tr (Nd Fo RepS RepN Rep cellsN)
open Lx (Tk noTk Blk run_store_complexL TokAt)
open Fl
attribute [local go_sem] run_store_complexL run_field1 run_field3
def TBe (w : World) (tb : Nat) (cs : Array Value) : Prop := Lx.Blk w tb 68 cs
theorem TBe.lt {w : World} {tb : Nat} {cs : Array Value} (h : TBe w tb cs) : tb < w.heap.size := Lx.Blk.lt h
theorem TBe.below {w w' : World} {tb : Nat} {cs : Array Value} (h : TBe w tb cs) (hb : Below w.heap.size w w') : TBe w' tb cs := Lx.Blk.below h hb (Lx.Blk.lt h)
theorem TBe.grown {w w' : World} {tb br : Nat} {cs : Array Value} (h : TBe w tb cs) (hg : w.grownBy w' (some br)) (hne : ¬ br = tb) : TBe w' tb cs := Lx.Blk.grown h hg (fun e => by injection e with e; exact hne e.symm)
def TBk (w : World) (tb : Nat) : Prop := ∃ v0 v1 v2 v3 v4, Lx.Blk w tb 68 #[v0, v1, v2, v3, v4]
theorem TBk.lt {w : World} {tb : Nat} (h : TBk w tb) : tb < w.heap.size := by obtain ⟨_, _, _, _, _, h⟩ := h; exact h.lt
theorem TBk.below {w w' : World} {tb : Nat} (h : TBk w tb) (hb : Below w.heap.size w w') : TBk w' tb := by obtain ⟨_, _, _, _, _, h⟩ := h; exact ⟨_, _, _, _, _, h.below hb h.lt⟩
theorem TBk.grown {w w' : World} {tb br : Nat} (h : TBk w tb) (hg : w.grownBy w' (some br)) (hne : ¬ br = tb) : TBk w' tb := by
  obtain ⟨_, _, _, _, _, h⟩ := h
  exact ⟨_, _, _, _, _, h.grown hg (fun e => by injection e with e; exact hne e.symm)⟩
section
variable {w0 w w1 : World} {br c i i' : Nat} {A : Option Addr} {L : List PT} {bad bad' : Bool}
theorem QG.far (h : QG w0 w w1 br A c L i bad) (hw : QInv w0 w br A c L i' bad') {b : Nat} (hb : w.heap.size ≤ b) (o : Nat) (u : Value) : QG w0 w (w1.setCell ⟨b, o, none⟩ u) br A c L i bad := by
  have hl := hw.row.lt
  have hs := hw.grown.size
  have hg := Lx.grown_set w1 b o u
  have hk : ∀ (a : World), a.heap.size ≤ b → a.grownBy w1 (some br) → a.grownBy (w1.setCell ⟨b, o, none⟩ u) (some br) := fun a ha h =>
    ⟨h.os, h.tape, h.output, by rw [World.size_setCell]; exact h.size, fun k hk hr => (hg.block k (Nat.lt_of_lt_of_le hk h.size) (fun e => by injection e with e; omega)).trans (h.block k hk hr)⟩
  exact ⟨⟨h.1.row.far (show br ≠ b by omega) u, hk w0 (by omega) h.1.grown⟩, hk w hb h.2⟩
theorem QG.store5 (h : QG w0 w w1 br A c L i bad) (hw : QInv w0 w br A c L i' bad') {b : Nat} (hb : w.heap.size ≤ b) (x0 x1 x2 x3 x4 : Value) :
    QG w0 w (((((w1.setCell ⟨b, 0, none⟩ x0).setCell ⟨b, 1, none⟩ x1).setCell ⟨b, 2, none⟩ x2).setCell ⟨b, 3, none⟩ x3).setCell ⟨b, 4, none⟩ x4) br A c L i bad :=
  ((((h.far hw hb _ _).far hw hb _ _).far hw hb _ _).far hw hb _ _).far hw hb _ _
end
end Go.Proofs.Ytecmjhohniipoaa.Ex

end

section
namespace Go.Proofs.Ytecmjhohniipoaa.Ex
open Go.RowKit
open Tr (Nd Fo RepS RepN Rep cellsN)
open Lx (Tk noTk Blk run_store_complexL TokAt)
open Fl
attribute [local go_sem] run_store_complexL run_field1 run_field3
def LK (B0 B : Nat) (w0 w : World) (br : Nat) (A : Option Addr) (c : Nat) (L : List PT) (b : Nat) (d : Nd) (res : Except Nat (T1 × Nat)) (G : List T1 → Nat → Prop) (wr : World) : Prop :=
  (∃ (acc : List T1) (sv : Value) (xs : List Value) (j : Nat), j ≤ L.length ∧ acc.length ≤ j + 1 ∧ QG w0 w wr br A c L j false ∧ KG B0 B wr b d sv acc xs ∧ G acc j) ∨
  (∃ (sv : Value) (xs : List Value) (k : Nat), k ≤ 80000 ∧ xs.length ≤ 20003 ∧ QG w0 w wr br A c L k true ∧ KN B wr b d sv xs ∧ res = .error k)
section
variable {w0 w wr w1 : World} {B br b c i i' : Nat} {d : Nd} {A : Option Addr} {L : List PT} {sv u : Value} {xs : List Value} {bad bad' : Bool}
theorem QG.hung {row : Option Nat} (h : QG w0 w wr br A c L i bad) (hw : QInv w0 w br A c L i' bad') (o : Obj) (hg : (wr.alloc o).grownBy w1 row) (hr : ∀ k, row = some k → w.heap.size ≤ k) (hb : w.heap.size ≤ b) : QG w0 w (w1.setCell ⟨b, 4, none⟩ u) br A c L i bad :=
  (QG.appended h hw hg hr).far hw hb 4 u
theorem kid_facts {W : World} {p : Option Addr} (m : Nat) (hm : W.heap.size = m) (hw : B ≤ W.heap.size) (hown : W.ownsRow B 26 1 sv xs.length xs) (hn : xs.length ≤ 1000000) :
    Hid ((∀ i v, [Value.pointer p][i]? = some v → (W.alloc (.cells #[.pointer p] 26)).cell? ((⟨m, 0, none⟩ : Addr).add i) = some v) ∧ (∀ v ∈ [Value.pointer p], v.oneCell' = true) ∧ xs.length + 1 ≤ maxLen ∧ B ≤ (W.alloc (.cells #[.pointer p] 26)).heap.size ∧ (W.alloc (.cells #[.pointer p] 26)).ownsRow B 26 1 sv xs.length xs) :=
  hm ▸ Lib.hid ⟨World.news_of_block (cs := #[.pointer p]) (heap_alloc_new W _), fun v hv => by simp only [List.mem_singleton] at hv; subst hv; rfl, by unfold maxLen; omega, by rw [World.size_alloc]; omega, hown.alloc _⟩
theorem KN.after (h : KN B wr b d sv xs) (hg : wr.grownBy w1 sv.ownBlock) : w1.cell? ⟨b, 4, none⟩ = some sv ∧ w1.frozen? ⟨b, 4, none⟩ = false ∧ b < w1.heap.size :=
  have hb := h.blk.grown hg (fun e => Tr.own_blk_ne h.own h.blk (by decide) e.symm)
  ⟨hb.cell 4, hb.frozen 4, hb.lt⟩
theorem KG.new {B0 : Nat} {acc : List T1} {f : Fo} {vs : List Value} (h : KG B0 B wr b d sv acc xs) (hr : RepS (fun y => wr.heap.size ≤ y) w1 f vs) (hB : B0 ≤ B) : RepS (fun y => B0 ≤ y ∧ y ≠ b ∧ sv.ownBlock ≠ some y) w1 f vs := by
  have h1 := h.kn.blk.lt
  have h2 := h.kn.low
  exact hr.more fun y hy _ => ⟨by omega, by omega, fun e => by have := (h.kn.own.lt _ e).2; omega⟩
theorem LK.hung {B0 : Nat} {res : Except Nat (T1 × Nat)} {G : List T1 → Nat → Prop} {k : Nat} (h : QG w0 w wr br A c L k true) (hb : KN B wr b d sv xs) (hv : xs.length ≤ 20003) (hr : res = .error k) (hk : k ≤ 80000) : LK B0 B w0 w br A c L b d res G wr := .inr ⟨sv, xs, k, hk, hv, h, hb, hr⟩
end
end Go.Proofs.Ytecmjhohniipoaa.Ex

end

section
namespace Go.Proofs.Ytecmjhohniipoaa.Ex
open Go.RowKit
open Tr (Nd Fo RepS RepN Rep cellsN)
open Lx (Tk noTk Blk run_store_complexL TokAt)
open Fl
attribute [local go_sem] run_store_complexL run_field1 run_field3
section
variable {w0 w W w1 wr : World} {B B0 br b c i i' : Nat} {d : Nd} {A : Option Addr} {L : List PT} {sv u v : Value} {xs vs : List Value} {bad bad' : Bool}
theorem KN.cells (h : KN B w b d sv xs) : w.cell? ⟨b, 0, none⟩ = some (.int .u8 d.kind) ∧ w.frozen? ⟨b, 0, none⟩ = false ∧ w.cell? ⟨b, 3, none⟩ = some (.int .i64 d.n) ∧ w.frozen? ⟨b, 3, none⟩ = false ∧ b < w.heap.size := ⟨h.blk.cell 0, h.blk.frozen 0, h.blk.cell 3, h.blk.frozen 3, h.blk.lt⟩
theorem KG.all {m c' : Nat} {A' : Option Addr} {x : T1} {l : List T1} (h : KG B0 B W b d sv [x] [v]) (hl : RepS (fun y => B0 ≤ y ∧ y ≠ b ∧ sv.ownBlock ≠ some y) W (forest l) vs) (hm : vs.length = m)
    (hown : w1.ownsRow B 26 1 (.slice A' (1 + m) c') (1 + m) ([v] ++ vs)) (hg : W.grownBy w1 sv.ownBlock) (hB : B0 ≤ B) :
    RepS (fun y => B0 ≤ y) (w1.setCell ⟨b, 4, none⟩ (.slice A' (1 + m) c')) (.node d (forest (x :: l)) .no) [.pointer (some ⟨b, 0, none⟩)] := by
  have hne : sv.ownBlock ≠ some b := Tr.own_blk_ne h.kn.own h.kn.blk (by decide)
  have hb1 : Tr.Blk w1 b 42 (cellsN d sv) := h.kn.blk.grown hg (fun e => hne e.symm)
  have hgb := Tr.own_blk_ne hown hb1 (by decide)
  have hb2 := hb1.set_ 4 (.slice A' (1 + m) c')
  rw [Tr.cellsN_set] at hb2
  have hkeep : ∀ y, (B0 ≤ y ∧ y ≠ b ∧ sv.ownBlock ≠ some y) → y < W.heap.size → (w1.setCell ⟨b, 4, none⟩ (.slice A' (1 + m) c')).heap[y]? = W.heap[y]? := by
    intro y hy hl
    obtain ⟨x1, x2, x3⟩ := hy
    rw [Below.heap_setCell w1 ⟨b, 4, none⟩ _ y x2]
    exact hg.block y hl (fun e => x3 e.symm)
  have hr : RepS (fun y => B0 ≤ y) (w1.setCell ⟨b, 4, none⟩ (.slice A' (1 + m) c')) (forest (x :: l)) ([v] ++ vs) :=
    (repS_cons h.rep hl).keep (by simp; exact hg.size) hkeep fun y hy _ => hy.1
  have ho : (w1.setCell ⟨b, 4, none⟩ (.slice A' (1 + m) c')).ownsRow B 26 1 (.slice A' (1 + m) c') ([v] ++ vs).length ([v] ++ vs) := by
    have e : ([v] ++ vs).length = 1 + m := by rw [List.length_append, hm]; rfl
    rw [e]
    exact hown.kept (Tr.setCell_grown _ _ _) (.inr hgb)
  exact RepS.mk hb2 ho hr (Nat.le_trans hB h.kn.low) (fun g hg => Nat.le_trans hB (ho.lt g hg).1)
theorem QG.gfar {row : Option Nat} (h : QG w0 w wr br A c L i bad) (hw : QInv w0 w br A c L i' bad') (hg : wr.grownBy w1 row) (hr : ∀ k, row = some k → w.heap.size ≤ k) : QG w0 w w1 br A c L i bad := by
  have hl := hw.row.lt
  have hs := hw.grown.size
  have hk : ∀ (a : World), a.heap.size ≤ w.heap.size → a.grownBy wr (some br) → a.grownBy w1 (some br) := fun a ha h =>
    ⟨hg.os.trans h.os, hg.tape.trans h.tape, hg.output.trans h.output, Nat.le_trans h.size hg.size, fun k hk hne => (hg.block k (Nat.lt_of_lt_of_le hk h.size) (fun e => by have := hr k e.symm; omega)).trans (h.block k hk hne)⟩
  exact ⟨⟨h.1.row.grown hg (fun e => by have := hr _ e.symm; omega), hk w0 hs h.1.grown⟩, hk w (Nat.le_refl _) h.2⟩
theorem RefR.since {r : Except Nat (T1 × Nat)} {e : Ending} (h : RefR B w0 wr br A c L r e w1) (hg : w.grownBy wr (some br)) : RefR B w0 w br A c L r e w1 := by
  cases r with
  | error k => obtain ⟨p, h1, h2, h3⟩ := h; exact ⟨p, h1, h2, grown_trans hg h3⟩
  | ok q => obtain ⟨b, h1, h2, h3, h4⟩ := h; exact ⟨b, h1, h2, grown_trans hg h3, h4⟩
end
end Go.Proofs.Ytecmjhohniipoaa.Ex
namespace Go.Proofs.Ytecmjhohniipoaa.Ex
open Go.RowKit
open Tr (Nd Fo RepS RepN Rep cellsN)
open Lx (Tk noTk Blk run_store_complexL TokAt)
open Fl
attribute [local go_sem] run_store_complexL run_field1 run_field3
end Go.Proofs.Ytecmjhohniipoaa.Ex
namespace Go.Proofs.Ytecmjhohniipoaa.Ex
open Go.RowKit
open Tr (Nd Fo RepS RepN Rep cellsN)
open Lx (Tk noTk Blk run_store_complexL TokAt)
open Fl
attribute [local go_sem] run_store_complexL run_field1 run_field3
theorem KN.lower {B B' : Nat} {w : World} {b : Nat} {d : Nd} {sv : Value} {xs : List Value} (h : KN B w b d sv xs) (hB : B' ≤ B) : KN B' w b d sv xs := ⟨h.blk, Lx.own_mono h.own hB, Nat.le_trans hB h.low⟩
theorem KG.lower {B0 B B' : Nat} {w : World} {b : Nat} {d : Nd} {sv : Value} {acc : List T1} {xs : List Value} (h : KG B0 B w b d sv acc xs) (hB : B' ≤ B) : KG B0 B' w b d sv acc xs := ⟨h.kn.lower hB, h.rep, h.len⟩
end Go.Proofs.Ytecmjhohniipoaa.Ex

end

section
namespace Go.Proofs.Ytecmjhohniipoaa.Ex
open Go.RowKit
open Tr (Nd Fo RepS RepN Rep cellsN)
open Lx (Tk noTk Blk run_store_complexL TokAt)
open Fl
attribute [local go_sem] run_store_complexL run_field1 run_field3
end Go.Proofs.Ytecmjhohniipoaa.Ex

end

section
namespace Go.Proofs.Ytecmjhohniipoaa.Ex
open Go.RowKit
open Tr (Nd Fo RepS RepN Rep cellsN)
open Lx (Tk noTk Blk run_store_complexL TokAt)
open Fl
attribute [local go_sem] run_store_complexL run_field1 run_field3
section
variable {w0 : World} {br c : Nat} {A : Option Addr} {L : List PT} (ht : Toks w0 br A L) (ok : OKRow L)
include ht ok
end
end Go.Proofs.Ytecmjhohniipoaa.Ex
namespace Go.Proofs.Ytecmjhohniipoaa.Ex
open Go.RowKit
open Tr (Nd Fo)
open Lx (bt Tk noTk isL isD isP isX oneN numN symN item scanL scanF at_ at_is)
open Fl Pl
structure TkS (n : Nat) (t : Tk) : Prop where
  ok : OKTk t
  size : t.text.size ≤ n
structure TF (t : PT) : Prop where
  ok : OKTk t.1
  p1 : t.2.1.1 < 4294967296
  p2 : t.2.1.2 < 4294967296
  size : t.1.text.size ≤ 9223372036854775807
def FitRow (L : List PT) : Prop := ∀ i, TF (tk L i)
def fitT (x : T1) : Prop := (Fo.node x.1 x.2 .no).fits
def Ft {α : Type} (c : α → Prop) (p : Par α) : Prop := ∀ L i a j, FitRow L → p L i = .ok (a, j) → c a
section
variable {α β : Type} {c : α → Prop} {c' : β → Prop}
end
section
variable {e : Par T1} (ge : Ft fitT e)
include ge
end
theorem grow_labels (g : Nat) : Grow cntT 1 (labelsF g) :=
  grow_pos fun t => grow_bind (m := 1) (grow_manyF (grow_elemF (grow_lev (grow_fact g g) g 3)) g) (fun l => grow_ret (by rw [cnt_mk]; omega)) (by omega)
theorem grow_exprF (g : Nat) : Grow cntT 0 (exprF g) := grow_lev (grow_fact g g) g 3
end Go.Proofs.Ytecmjhohniipoaa.Ex
namespace Go.Proofs.Ytecmjhohniipoaa.Ex
open Go.RowKit
open Tr (Nd Fo RepS RepN Rep cellsN)
open Lx (Tk noTk Blk run_store_complexL TokAt)
open Fl
attribute [local go_sem] run_store_complexL run_field1 run_field3
section
variable {w0 w : World} {br c j : Nat} {A : Option Addr} {L : List PT}
end
end Go.Proofs.Ytecmjhohniipoaa.Ex
namespace Go.Proofs.Ytecmjhohniipoaa.Ex
open Go.RowKit
open Tr (Nd Fo RepS RepN Rep cellsN)
open Lx (Tk noTk Blk run_store_complexL TokAt)
open Fl
attribute [local go_sem] run_store_complexL run_field1 run_field3
end Go.Proofs.Ytecmjhohniipoaa.Ex

end

section
namespace Go.Proofs.Ytecmjhohniipoaa.St
open Go.RowKit
open Tr (Nd Fo)
open Lx (Tk noTk)
open Ex
def Grw {α : Type} (c : α → Nat) (k : Nat) (p : Par α) : Prop := ∀ L i a j, p L i = .ok (a, j) → c a + 3 * i ≤ k + 3 * j
section
variable {α β : Type} {c : α → Nat} {c' : β → Nat} {k k' : Nat}
theorem Grw.more {p : Par α} (h : Grw c k p) (hk : k ≤ k') : Grw c k' p := fun L i a j e => by have := h L i a j e; omega
theorem grw_of {p : Par α} (hm : ∀ L i, i ≤ posE (p L i)) (h : Grow c k p) : Grw c k p := fun L i a j e => by
  have h1 := h L i a j e
  have h2 := hm L i
  rw [e] at h2
  have h3 : i ≤ j := h2
  omega
theorem grw_ret {a : α} (h : c a ≤ k) : Grw c k (retP a) := fun L i b j e => by cases e; omega
theorem grw_fail : Grw c k (failP (α := α)) := fun L i b j e => by cases e
theorem grw_bind {p : Par α} {q : α → Par β} {m : Nat} (hp : Grw c k p) (hq : ∀ a, Grw c' (c a + m) (q a)) (hk : k + m ≤ k') : Grw c' k' (bindP p q) := by
  intro L i b j e
  unfold bindP at e
  cases e1 : p L i with
  | error x => rw [e1] at e; cases e
  | ok r =>
    obtain ⟨a, j1⟩ := r
    rw [e1] at e
    have h1 := hp L i a j1 e1
    have h2 := hq a L j1 b j e
    omega
theorem grw_tok {t : PT → Bool} {A : PT → Par α} {B : Par α} (hA : ∀ x, Grw c (k + 3) (A x)) (hB : Grw c k B) : Grw c k (tokP t A B) := by
  intro L i a j e
  unfold tokP at e
  split at e
  · have := hA _ L (i + 1) a j e; omega
  · exact hB L i a j e
theorem grw_pos {q : PT → Par α} (h : ∀ x, Grw c k (q x)) : Grw c k (posP q) := fun L i a j e => h _ L i a j e
theorem grw_need {s : ByteArray} {p : Par α} (h : Grw c (k + 3) p) : Grw c k (needF s p) := grw_tok (fun _ => h) grw_fail
end
theorem cntL_app (b : List T1) : ∀ a : List T1, cntL (a ++ b) = cntL a + cntL b
  | [] => by rw [List.nil_append, cntL_nil, Nat.zero_add]
  | x :: a => by rw [List.cons_append, cntL_cons, cntL_cons, cntL_app b a]; omega
theorem cntL_1 (x : T1) : cntL [x] = cntT x := by rw [cntL_cons, cntL_nil]; rfl
theorem cntL_2 (x y : T1) : cntL [x, y] = cntT x + cntT y := by rw [cntL_cons, cntL_1]
section
variable {g : Nat} {bd : Par T1}
theorem grw_expr : Grw cntT 0 (exprF g) := grw_of (good_exprF g).mono (grow_exprF g)
theorem grw_design : Grw cntT 0 (designF (exprF g) g) := grw_of (good_designF (good_exprF g) g).mono (grow_designF (grow_exprF g) g)
theorem grw_labels : Grw cntT 1 (labelsF g) := grw_of (good_labelsF g).mono (grow_labels g)
theorem grw_between {s : ByteArray} : Grw cntL 0 (betweenF (exprF g) g s) := grw_of (good_betweenF (good_exprF g) g s).mono (grow_betweenF (grow_exprF g) g s)
theorem grw_endS {k : Nat} {p : Nat × Nat} {n : ByteArray} {l : List T1} : Grw cntT (cntL l) (endS k p n l) := grw_need (grw_ret (by rw [cnt_mk]; omega))
theorem grw_returnS {p : Nat × Nat} : Grw cntT 3 (returnS g p) := grw_pos fun t => by
  split
  · exact grw_ret (by rw [cnt_mk, cntL_nil]; omega)
  · exact grw_bind (m := 3) grw_expr (fun x => grw_ret (by rw [cnt_mk, cntL_1]; omega)) (by omega)
theorem grw_plainS : Grw cntT 1 (plainS g) := grw_pos fun t0 => grw_bind (m := 1) grw_design (fun d => grw_pos fun t1 => grw_tok (fun _ => grw_bind (m := cntT d + 1) grw_expr (fun y => grw_ret (by rw [cnt_mk, cntL_2]; omega)) (by omega))
  (grw_tok (fun _ => grw_bind (m := cntT d + 1) grw_between (fun l => grw_ret (by rw [cnt_mk, cntL_cons]; omega)) (by omega)) (grw_ret (by rw [cnt_mk, cntL_1]; omega)))) (by omega)
theorem grw_exitS {p : Nat × Nat} : Grw cntT 3 (exitS p) := grw_ret (by rw [cnt_mk, cntL_nil]; omega)
variable (hb : Grw cntT 2 bd)
include hb
theorem grw_ifsF : ∀ (f : Nat) (acc : List T1), Grw cntL (cntL acc) (ifsF g bd f acc)
  | 0, _ => grw_fail
  | f + 1, acc => grw_bind (m := cntL acc) grw_expr (fun x => grw_need (grw_bind (m := cntT x + cntL acc + 1) hb (fun b => grw_tok (fun _ => (grw_ifsF f _).more (by rw [cntL_app, cntL_2]; omega)) (grw_ret (by rw [cntL_app, cntL_2]; omega))) (by omega))) (by omega)
theorem grw_elseS {k : Nat} {p : Nat × Nat} {l : List T1} : Grw cntT (cntL l) (elseS bd k p l) := grw_tok (fun _ => grw_bind (m := cntL l + 1) hb (fun b => grw_endS.more (by rw [cntL_app, cntL_1]; omega)) (by omega)) grw_endS
theorem grw_ifS {p : Nat × Nat} : Grw cntT 3 (ifS g bd p) := grw_bind (m := 0) (grw_ifsF hb _ _) (fun l => grw_elseS hb) (by rw [cntL_nil]; omega)
theorem grw_armsF : ∀ (f : Nat) (acc : List T1), Grw cntL (cntL acc + 1) (armsF g bd f acc)
  | 0, _ => grw_fail
  | f + 1, acc => grw_pos fun t0 => by
    split
    · exact grw_tok (fun _ => (grw_armsF f acc).more (by omega)) (grw_ret (by omega))
    · exact grw_bind (m := cntL acc) grw_labels (fun x => grw_need (grw_bind (m := cntT x + cntL acc + 1) hb (fun b => grw_tok (fun _ => (grw_armsF f _).more (by rw [cntL_app, cntL_1, cnt_mk, cntL_2]; omega)) (grw_ret (by rw [cntL_app, cntL_1, cnt_mk, cntL_2]; omega))) (by omega))) (by omega)
theorem grw_caseS {p : Nat × Nat} : Grw cntT 3 (caseS g bd p) := grw_bind (m := 3) grw_expr (fun x => grw_need (grw_bind (m := 0) ((grw_armsF hb _ _).more (k' := cntT x + 1) (by rw [cntL_1]; omega)) (fun l => grw_tok (fun t => grw_bind (m := cntL l + 1) hb (fun b => grw_endS.more (by rw [cntL_app, cntL_1, cnt_mk, cntL_1]; omega)) (by omega)) grw_endS) (by omega))) (by omega)
theorem grw_whileS {p : Nat × Nat} : Grw cntT 3 (whileS g bd p) := grw_bind (m := 3) grw_expr (fun x => grw_need (grw_bind (m := cntT x + 1) hb (fun b => grw_endS.more (by rw [cntL_2]; omega)) (by omega))) (by omega)
theorem grw_withS {p : Nat × Nat} : Grw cntT 3 (withS g bd p) := grw_bind (m := 3) grw_design (fun x => grw_need (grw_bind (m := cntT x + 1) hb (fun b => grw_endS.more (by rw [cntL_2]; omega)) (by omega))) (by omega)
theorem grw_repS {p : Nat × Nat} : Grw cntT 3 (repS g bd p) := grw_bind (m := 1) hb (fun b => grw_need (grw_bind (m := cntT b + 1) grw_expr (fun x => grw_ret (by rw [cnt_mk, cntL_2]; omega)) (by omega))) (by omega)
theorem grw_loopS {p : Nat × Nat} : Grw cntT 3 (loopS bd p) := grw_bind (m := 1) hb (fun b => grw_endS.more (by rw [cntL_1]; omega)) (by omega)
theorem grw_forE {p : Nat × Nat} {v : ByteArray} {a z y : T1} : Grw cntT (cntT a + cntT z + cntT y) (forE bd p v a z y) := grw_need (grw_bind (m := cntT a + cntT z + cntT y) hb (fun b => grw_endS.more (by rw [cntL_cons, cntL_cons, cntL_2]; omega)) (by omega))
theorem grw_forS {p : Nat × Nat} : Grw cntT 3 (forS g bd p) := grw_tok (fun v => grw_need (grw_bind (m := 6) grw_expr (fun a => grw_need (grw_bind (m := cntT a + 6) grw_expr (fun z => grw_tok (fun _ => grw_bind (m := cntT a + cntT z) grw_expr (fun y => (grw_forE hb).more (by omega)) (by omega)) ((grw_forE hb).more (by have := cnt_zero; omega))) (by omega))) (by omega))) grw_fail
theorem grw_alts : ∀ x ∈ alts g bd, ∀ p, Grw cntT 3 (x.2 p) := by
  intro x hx p
  unfold alts at hx
  simp only [List.mem_cons, List.not_mem_nil, or_false] at hx
  rcases hx with rfl | rfl | rfl | rfl | rfl | rfl | rfl | rfl | rfl
  · exact grw_ifS hb
  · exact grw_caseS hb
  · exact grw_whileS hb
  · exact grw_repS hb
  · exact grw_loopS hb
  · exact grw_exitS
  · exact grw_forS hb
  · exact grw_withS hb
  · exact grw_returnS
omit hb in
theorem grw_stmL : ∀ (l : List (ByteArray × (Nat × Nat → Par T1))), (∀ x ∈ l, ∀ p, Grw cntT 3 (x.2 p)) → Grw cntL 1 (stmL g l)
  | [], _ => grw_pos fun t => by
    split
    · exact grw_bind (m := 0) grw_plainS (fun x => grw_ret (by rw [cntL_1]; omega)) (by omega)
    · exact grw_ret (by rw [cntL_nil]; omega)
  | (s, q) :: r, h => grw_tok (fun t => grw_bind (m := 0) (h _ (List.mem_cons_self ..) _) (fun x => grw_ret (by rw [cntL_1]; omega)) (by omega)) (grw_stmL r fun x hx => h x (List.mem_cons_of_mem _ hx))
theorem grw_bodyR : ∀ (f : Nat) (acc : List T1), Grw cntL (cntL acc + 1) (bodyR g bd f acc)
  | 0, _ => grw_fail
  | f + 1, acc => grw_bind (m := cntL acc) (grw_stmL _ (grw_alts hb)) (fun s => grw_tok (fun _ => (grw_bodyR f _).more (by rw [cntL_app]; omega)) (grw_ret (by rw [cntL_app]; omega))) (by omega)
theorem grw_bodyG : Grw cntT 2 (bodyG g bd) := grw_pos fun t0 => grw_bind (m := 1) (grw_bodyR hb _ _) (fun l => grw_ret (by rw [cnt_mk]; omega)) (by rw [cntL_nil]; omega)
end
theorem grw_bodyF (g : Nat) : ∀ f, Grw cntT 2 (bodyF g f)
  | 0 => grw_fail
  | f + 1 => grw_bodyG (grw_bodyF g f)
section
variable {g : Nat} {bd : Par T1}
variable (hb : Ft fitT bd)
include hb
end
end Go.Proofs.Ytecmjhohniipoaa.St

end

section
namespace Go.Proofs.Ytecmjhohniipoaa.St
open Go.RowKit
open Tr (Nd Fo RepS RepN Rep cellsN)
open Lx (Tk noTk Blk run_store_complexL TokAt scanL flat scanEnd at_ flat_len bt)
open Fl
open Ex
attribute [local go_sem] run_store_complexL run_field1 run_field3
theorem same_at {w : World} {x y : T1} {b b' : Nat} {S S' : Nat → Prop} (hx : RepS S w (.node x.1 x.2 .no) [.pointer (some ⟨b, 0, none⟩)]) (hy : RepS S' w (.node y.1 y.2 .no) [.pointer (some ⟨b', 0, none⟩)]) (hb : Bare x y) (hc : cntT x ≤ 1000000) :
    Calls Try.prog 14 #[.pointer (some ⟨b, 0, none⟩), .pointer (some ⟨b', 0, none⟩)] w fun e w' => e = .returned (.bool true) ∧ ∃ m, w' = w.drewN m := by
  have := Tr.rsame_any _ x.1 x.2 y.1 y.2 _ _ w (Nat.le_refl _) hc hx.rep hy.rep
  rw [show (Fo.node x.1 x.2 .no).same (.node y.1 y.2 .no) = true from hb] at this
  exact this
theorem body_0 {w : World} {A : Option Addr} {L : List PT} (h : RowAt w A L) (c : Nat) {T : T1} (e : bodyF (L.length + 1) (L.length + 1 + 1) L 0 = .ok (T, L.length)) : Calls Try.prog 10 #[.slice A L.length c, .int .i64 0] w (ParR w (.ok (T, L.length))) := by
  have := Body_any h c (i := 0) (by omega) (g := L.length + 1) (by omega)
  rw [e] at this
  exact this
end Go.Proofs.Ytecmjhohniipoaa.St

end

section
namespace Go.Proofs.Ytecmjhohniipoaa.St
open Go.RowKit
open Tr (Nd Fo RepS RepN Rep cellsN)
open Lx (Tk noTk Blk run_store_complexL TokAt scanL flat scanEnd at_ flat_len bt)
open Fl
open Ex
attribute [local go_sem] run_store_complexL run_field1 run_field3
theorem last_at {S : Nat → Prop} {w : World} {T : T1} : ∀ {l0 : List T1} {vs : List Value}, RepS S w (forest (l0 ++ [T])) vs → vs.length = l0.length + 1 ∧ ∃ b, vs[l0.length]? = some (.pointer (some ⟨b, 0, none⟩)) ∧ RepS S w (.node T.1 T.2 .no) [.pointer (some ⟨b, 0, none⟩)]
  | [], vs, h => by
    have h' : RepS S w (.node T.1 T.2 .no) vs := h
    have h2 := h'
    unfold RepS at h'
    obtain ⟨b, A, c, ks, vs', e, _, _, _, _, _, h7⟩ := h'
    unfold RepS at h7
    subst h7
    subst e
    exact ⟨rfl, b, rfl, h2⟩
  | x :: l0, vs, h => by
    have h' : RepS S w (.node x.1 x.2 (forest (l0 ++ [T]))) vs := h
    unfold RepS at h'
    obtain ⟨b, A, c, ks, vs', e, _, _, _, _, _, h7⟩ := h'
    obtain ⟨i1, b', i2, i3⟩ := last_at h7
    subst e
    exact ⟨by simp [i1], b', by simpa using i2, i3⟩
structure WMem (S : Nat → Prop) (w : World) (b m : Nat) (T : T1) (g3 o3 c3 b3 g4 o4 c4 b4 : Nat) : Prop where
  kids : w.cell? ⟨b, 4, none⟩ = some (.slice (some ⟨g3, o3, none⟩) 1 c3)
  one : w.cell? ⟨g3, o3, none⟩ = some (.pointer (some ⟨b3, 0, none⟩))
  kids3 : w.cell? ⟨b3, 4, none⟩ = some (.slice (some ⟨g4, o4, none⟩) (m + 1) c4)
  last : w.cell? ⟨g4, o4 + m, none⟩ = some (.pointer (some ⟨b4, 0, none⟩))
  rep : RepS S w (.node T.1 T.2 .no) [.pointer (some ⟨b4, 0, none⟩)]
theorem within_mem {S : Nat → Prop} {w : World} {b kd k0 : Nat} {p p1 : Nat × Nat} {n0 n : ByteArray} {l0 : List T1} {T : T1} {Y : T1} (hY : Y = mk k0 p n0 0 [mk kd p1 n 0 (l0 ++ [T])]) (h : RepS S w (.node Y.1 Y.2 .no) [.pointer (some ⟨b, 0, none⟩)]) :
    ∃ g3 o3 c3 b3 g4 o4 c4 b4, WMem S w b l0.length T g3 o3 c3 b3 g4 o4 c4 b4 := by
  subst hY
  unfold RepS at h
  obtain ⟨b', A3, c3, ks, vs', e, _, ⟨_, _, _, _, h4⟩, _, hR, hk, _⟩ := h
  injection e with e _
  injection e with e
  injection e with e
  injection e with e
  subst e
  have hk' : RepS S w (.node (mk kd p1 n 0 (l0 ++ [T])).1 (mk kd p1 n 0 (l0 ++ [T])).2 .no) ks := hk
  unfold RepS at hk'
  obtain ⟨b3, A4, c4, ks4, vs4, e, _, ⟨_, _, _, _, h44⟩, _, hR4, hk4, hz⟩ := hk'
  unfold RepS at hz
  subst hz
  subst e
  obtain ⟨i1, b4, i2, i3⟩ := last_at (show RepS S w (forest (l0 ++ [T])) ks4 from hk4)
  obtain ⟨g3, o3, ⟨⟩, j3⟩ := Tr.Reads.nth hR (i := 0) (by simp)
  obtain ⟨g4, o4, ⟨⟩, j4⟩ := Tr.Reads.nth hR4 (i := l0.length) (by omega)
  rw [i1] at h44
  refine ⟨g3, o3, c3, b3, g4, o4, c4, b4, h4, j3, h44, ?_, i3⟩
  rw [j4, ← i2]
  exact (List.getElem?_eq_getElem _).symm
def headB (k : Nat) : ByteArray := match k with
  | 0 => ⟨#[87, 72, 73, 76, 69, 32, 97, 32, 68, 79, 32]⟩
  | 1 => ⟨#[76, 79, 79, 80, 32]⟩
  | 2 => ⟨#[73, 70, 32, 97, 32, 84, 72, 69, 78, 32]⟩
  | 3 => ⟨#[87, 73, 84, 72, 32, 114, 32, 68, 79, 32]⟩
  | _ => ⟨#[70, 79, 82, 32, 105, 32, 58, 61, 32, 49, 32, 84, 79, 32, 50, 32, 68, 79, 32]⟩
abbrev headsV : Array Value := #[.string ⟨#[87, 72, 73, 76, 69, 32, 97, 32, 68, 79, 32]⟩, .string ⟨#[76, 79, 79, 80, 32]⟩, .string ⟨#[73, 70, 32, 97, 32, 84, 72, 69, 78, 32]⟩, .string ⟨#[87, 73, 84, 72, 32, 114, 32, 68, 79, 32]⟩, .string ⟨#[70, 79, 82, 32, 105, 32, 58, 61, 32, 49, 32, 84, 79, 32, 50, 32, 68, 79, 32]⟩]
theorem headsV_at (k : Nat) (hk : k < 5) (W : World) : (W.alloc (.cells headsV 9)).cell? ⟨W.heap.size, k, none⟩ = some (.string (headB k)) := by
  rw [(Lx.Blk.new W 9 headsV).cell k]
  iterate 5 (rcases k with _ | k; · rfl)
  omega
theorem head_size : ∀ k, k < 5 → (headB k).size ≤ 19 := by decide
theorem head_text (k : Nat) (hk : k < 5) (t : List UInt8) : ((headB k ++ bt t) ++ ⟨#[32, 69, 78, 68]⟩).data.toList = headX k t := by
  iterate 5 (rcases k with _ | k; · simp [headB, headX, bt_data, ByteArray.data_append])
  omega
theorem size_list (s : ByteArray) : s.size = s.data.toList.length := by show s.data.size = _; rw [Array.length_toList]
theorem headX_len (k : Nat) (hk : k < 5) (t : List UInt8) : (headX k t).length ≤ t.length + 23 := by
  have h1 := head_size k hk
  have h2 : ((headB k ++ bt t) ++ ⟨#[32, 69, 78, 68]⟩).size = (headX k t).length := by rw [size_list, head_text k hk t]
  rw [ByteArray.size_append, ByteArray.size_append] at h2
  have h3 : (bt t).size = t.length := by show t.toArray.size = _; simp
  have h4 : (ByteArray.mk #[32, 69, 78, 68]).size = 4 := rfl
  omega
set_option maxRecDepth 100000 in
set_option maxHeartbeats 6400000 in
theorem within_walk (q : List (Prt × Value)) (A : Option Addr) (c : Nat) (a1 : Int) (w : World) (h : Parts w A c q) (h1 : 0 ≤ a1 ∧ a1 ≤ 255) :
    Calls Try.prog 6 #[.slice A q.length c, .int .u8 a1] w fun e w' => e = .returned (.bool true) ∧ Below w.heap.size w w' := by
  have hcap := h.cap
  have hbig := h.big
  by_cases hh : 20 < q.length
  · have WK := Lib.hid (works_any w)
    have x1 : (20 : Int) < (q.length : Int) := by omega
    clear h hh
    go_enter Try.func6, Try.ntmps6
    go_wp2_with fail
    ((with_reducible refine WK.out.mono ?_); rintro e w1 ⟨rfl, hb⟩)
    go_wp2
    go_ret
    exact ⟨rfl, hb⟩
  · have x1 : ¬ (20 : Int) < (q.length : Int) := by omega
    have GR := Lib.hid (text_any 3 (by omega) q A c w 5 (by omega) (by omega) h 5 3 rfl rfl)
    obtain ⟨fg, ug⟩ := text_ok 3 5 (q.map (·.1)) h.fit
    have lg := text_len 3 5 (q.map (·.1)) h.fit
    have l4 := lenB_4 3 (by omega)
    rw [List.length_map] at ug
    obtain ⟨x, m, e1⟩ : ∃ x m, textP 3 5 (q.map (·.1)) = (x, m) := ⟨_, _, rfl⟩
    rw [e1] at GR fg ug lg
    simp only at fg ug lg
    have htl : x.text.length ≤ 806000 := Nat.le_trans lg (Nat.le_trans (Nat.mul_le_mul l4 ug) (Nat.le_trans (Nat.mul_le_mul_left _ (show q.length ≤ 20 by omega)) (by decide)))
    have hts : (bt x.text).size = x.text.length := by show x.text.toArray.size = _; simp
    have HF := Lib.hid fg
    clear h hh e1 lg fg ug l4
    go_enter Try.func6, Try.ntmps6
    go_wp2_with fail
    ((with_reducible refine GR.out.mono ?_); rintro e w1 ⟨n, rfl, hb⟩)
    have HB := Lib.hid hb
    clear hb GR
    by_cases hbg : 4096 < x.text.length
    · have y1 : (4096 : Int) < ((bt x.text).size : Int) := by omega
      have WK := Lib.hid (works_any w1)
      clear hts hbg
      go_wp2_with fail
      ((with_reducible refine WK.out.mono ?_); rintro e w9 ⟨rfl, hb⟩)
      have HB := Lib.hid (HB.out.trans (hb.mono HB.out.size))
      clear hb WK
      go_wp2
      go_ret
      exact ⟨rfl, HB.out⟩
    have y1 : ¬ (4096 : Int) < ((bt x.text).size : Int) := by omega
    obtain ⟨k, ek⟩ : ∃ k : Nat, a1 % 5 = (k : Int) := ⟨(a1 % 5).toNat, by omega⟩
    have hk : k < 5 := by omega
    have x2 : 0 ≤ a1 := h1.1
    have x3 : a1 ≤ 255 := h1.2
    have x4 : (0 : Int) ≤ (k : Int) := by omega
    have x5 : (k : Int) < 5 := by omega
    have hxl : x.text.length ≤ 4096 := by omega
    have tx := head_text k hk x.text
    have hlx := headX_len k hk x.text
    have hsz : ((headB k ++ bt x.text) ++ ⟨#[32, 69, 78, 68]⟩).size ≤ 4200 := by
      have : ((headB k ++ bt x.text) ++ ⟨#[32, 69, 78, 68]⟩).size = (headX k x.text).length := by rw [size_list, tx]
      omega
    have hes := head_size k hk
    obtain ⟨L1, l1⟩ : ∃ L, rowP x.text = L := ⟨_, rfl⟩
    obtain ⟨L2, l2⟩ : ∃ L, rowP (headX k x.text) = L := ⟨_, rfl⟩
    obtain ⟨T1', f1, r1⟩ := body_text (s := x.text) (by omega) HF.out (lex_bx x HF.out) (g := L1.length + 1) (by rw [l1]; omega)
    obtain ⟨p, kd, p1, nm, l0, T, f2, r2, hl0⟩ := within_plain HF.out k l2.symm (by omega) (g := L2.length + 1) (by omega)
    rw [l1] at f1
    have hbare := bare_both r1 r2
    have hct : cntT T1' ≤ 1000000 := by
      have h3 := grw_bodyF (L1.length + 1) (L1.length + 1 + 1) L1 0 T1' L1.length f1
      have h4 := rowP_len x.text
      rw [l1] at h4
      omega
    obtain ⟨Y, hY⟩ : ∃ Y, Y = mk 46 p sNil 0 [mk kd p1 nm 0 (l0 ++ [T])] := ⟨_, rfl⟩
    rw [← hY] at f2
    have WM := Lib.hid (fun (S : Nat → Prop) (W : World) (b : Nat) => within_mem (S := S) (w := W) (b := b) hY)
    have F1 := Lib.hid f1
    have F2 := Lib.hid f2
    have HC := Lib.hid (And.intro hbare hct)
    obtain ⟨m0, hm0⟩ : ∃ m0, l0.length = m0 := ⟨_, rfl⟩
    rw [hm0] at WM hl0
    have R1 := Lib.hid (Ex.row_at (bt x.text) (by omega) L1 (by rw [bt_data]; exact l1) w1)
    have R2 := Lib.hid (fun W => Ex.row_at ((headB k ++ bt x.text) ++ ⟨#[32, 69, 78, 68]⟩) (by omega) L2 (by rw [tx]; exact l2) W)
    clear f1 f2 r1 r2 hbare hct l1 l2 hlx hsz tx hxl hbg hY h1 hm0 hts htl
    go_wp2_with fail
    ((with_reducible refine R1.out.mono ?_); rintro e w2 ⟨A1, c1, rfl, _, ha, hb⟩)
    have HB := Lib.hid (HB.out.trans (hb.mono HB.out.size))
    have D1 := Lib.hid (body_0 ha c1 F1.out)
    clear ha hb R1
    go_wp2_with fail
    ((with_reducible refine D1.out.mono ?_); rintro e w3 ⟨b1, rfl, hr, hb⟩)
    have HB := Lib.hid (HB.out.trans (hb.mono HB.out.size))
    have HR := Lib.hid hr
    clear hr hb D1
    have D2 := Lib.hid (R2.out (w3.alloc (.cells headsV 9)))
    have hend := headsV_at k hk w3
    have HA := Lib.hid (bel1 w3 (.cells headsV 9))
    have HB := Lib.hid (HB.out.trans (HA.out.mono HB.out.size))
    clear R2
    go_wp2_with fail
    ((with_reducible refine D2.out.mono ?_); rintro e w4 ⟨A2, c2, rfl, _, ha, hb⟩)
    have HB := Lib.hid (HB.out.trans (hb.mono HB.out.size))
    have HZ := Lib.hid (HA.out.trans (hb.mono HA.out.size))
    have D3 := Lib.hid (body_0 ha c2 F2.out)
    clear ha hb D2 hend HA
    go_wp2_with fail
    ((with_reducible refine D3.out.mono ?_); rintro e w5 ⟨b2, rfl, hr, hb⟩)
    have HB := Lib.hid (HB.out.trans (hb.mono HB.out.size))
    have HZ := Lib.hid (HZ.out.trans (hb.mono HZ.out.size))
    obtain ⟨g3, o3, c3, b3, g4, o4, c4, b4, WW⟩ := WM.out _ w5 b2 hr
    have k1 := WW.kids
    have k2 := WW.one
    have k3 := WW.kids3
    have k4 := WW.last
    have z0 : (0 : Int) ≤ (m0 : Int) := by omega
    have z1 : ((m0 : Int) + 1 == 0) = false := by rw [beq_eq_false_iff_ne]; omega
    have z2 : (m0 : Int) < (m0 : Int) + 1 := by omega
    have z3 : (m0 : Int) + 1 - 1 = (m0 : Int) := by omega
    have SM := Lib.hid (fun W (hz : Below w5.heap.size w5 W) => same_at (HR.out.below (HZ.out.trans (hz.mono HZ.out.size))) (WW.rep.below hz) HC.out.1 HC.out.2)
    clear hr hb D3 WW WM
    go_wp2_with fail
    go_quiet (fail)
    have HQ := Lib.hid (Lx.below_drewN (Below.refl w5.heap.size w5) nq)
    have HB := Lib.hid (Lx.below_drewN HB.out nq)
    have SM := Lib.hid (SM.out _ HQ.out)
    clear k1 k2 k3 k4 HQ
    generalize w5.drewN nq = w6 at *
    go_wp2_with fail
    ((with_reducible refine SM.out.mono ?_); rintro e w7 ⟨rfl, j, rfl⟩)
    have HB := Lib.hid (Lx.below_drewN HB.out j)
    have WK := Lib.hid (works_any (w6.drewN j))
    clear SM
    go_wp2_with fail
    ((with_reducible refine WK.out.mono ?_); rintro e w9 ⟨rfl, hb⟩)
    have HB := Lib.hid (HB.out.trans (hb.mono HB.out.size))
    clear hb WK
    go_wp2
    go_ret
    exact ⟨rfl, HB.out⟩
end Go.Proofs.Ytecmjhohniipoaa.St

end
