/- A tree that is written with all its parentheses is read as that tree: its row of tokens. Plain. -/
import Derived.Test.YtnboenmkngjhmaaF5
set_option linter.unusedSimpArgs false
set_option linter.unusedVariables false
namespace Go.Proofs.Ytnboenmkngjhmaa.Ex
open Tr (Nd Fo)
open Lx (Tk noTk)

/-- The operators, as the law has them. -/
def opsB : List ByteArray := [⟨#[42]⟩, ⟨#[47]⟩, ⟨#[68, 73, 86]⟩, ⟨#[77, 79, 68]⟩, ⟨#[65, 78, 68]⟩, ⟨#[43]⟩, ⟨#[45]⟩, ⟨#[79, 82]⟩, ⟨#[61]⟩, ⟨#[35]⟩, ⟨#[60]⟩, ⟨#[60, 61]⟩, ⟨#[62]⟩, ⟨#[62, 61]⟩, ⟨#[73, 78]⟩]
def opB (k : Nat) : ByteArray := opsB.getD k ⟨#[]⟩
def opTk (k : Nat) : Tk := ⟨if k = 2 ∨ k = 3 ∨ k = 4 ∨ k = 7 ∨ k = 14 then 6 else 5, opB k, 0⟩
def opLev (k : Nat) : Nat := if k < 5 then 2 else if k < 8 then 1 else 0
def unB (k : Nat) : ByteArray := if k = 0 then ⟨#[43]⟩ else if k = 1 then ⟨#[45]⟩ else sNot
def unTk (k : Nat) : Tk := ⟨if k = 2 then 6 else 5, unB k, 0⟩
inductive Gr where
  | z : Gr
  | bin (op : Nat) (a b : Gr) : Gr
  | un (op : Nat) (a : Gr) : Gr
  | num (n : Nat) : Gr
  | idx (a : Gr) : Gr
  | call (a b : Gr) : Gr
  | rng (a b : Gr) : Gr
  | str : Gr
def Gr.fits : Gr → Prop
  | .z => True
  | .bin op a b => op < 15 ∧ a.fits ∧ b.fits
  | .un op a => op < 3 ∧ a.fits
  | .num n => n ≤ 65535
  | .idx a => a.fits
  | .call a b => a.fits ∧ b.fits
  | .rng a b => a.fits ∧ b.fits
  | .str => True
def nm (c : UInt8) : T1 := mk 1 (0, 0) ⟨#[c]⟩ 0 []
def Gr.tree : Gr → T1
  | .z => nm 122
  | .bin op a b => mk 11 (0, 0) (opB op) 0 [a.tree, b.tree]
  | .un op a => mk 12 (0, 0) (unB op) 0 [a.tree]
  | .num n => mk 5 (0, 0) sNil n []
  | .idx a => mk 2 (0, 0) ⟨#[102]⟩ 0 [mk 4 (0, 0) sNil 0 [mk 3 (0, 0) sNil 0 [nm 118, a.tree]]]
  | .call a b => mk 10 (0, 0) sNil 0 [nm 103, a.tree, b.tree]
  | .rng a b => mk 8 (0, 0) sNil 0 [nm 83, mk 9 (0, 0) sNil 0 [a.tree, b.tree]]
  | .str => mk 7 (0, 0) ⟨#[113]⟩ 0 []
def sy (s : ByteArray) : Tk := ⟨5, s, 0⟩
def na (c : UInt8) : Tk := ⟨1, ⟨#[c]⟩, 0⟩
def Gr.toks : Gr → List Tk
  | .z => [na 122]
  | .bin op a b => sy sPar :: (a.toks ++ opTk op :: (b.toks ++ [sy sRap]))
  | .un op a => sy sPar :: unTk op :: (a.toks ++ [sy sRap])
  | .num n => [⟨2, sNil, n⟩]
  | .idx a => na 118 :: sy sBra :: (a.toks ++ [sy sKet, sy sHat, sy sDot, na 102])
  | .call a b => na 103 :: sy sPar :: (a.toks ++ sy sCom :: (b.toks ++ [sy sRap]))
  | .rng a b => na 83 :: sy sCur :: (a.toks ++ sy sRan :: (b.toks ++ [sy sRuc]))
  | .str => [⟨4, ⟨#[113]⟩, 0⟩]
/-- These tokens stand there. -/
def AtT (L : List PT) : Nat → List Tk → Prop
  | _, [] => True
  | i, t :: l => (tk L i).1 = t ∧ AtT L (i + 1) l
theorem atT_app {L : List PT} : ∀ {a b : List Tk} {i : Nat}, AtT L i (a ++ b) → AtT L i a ∧ AtT L (i + a.length) b
  | [], b, i, h => ⟨trivial, h⟩
  | t :: a, b, i, h => by
    obtain ⟨h1, h2⟩ := h
    obtain ⟨h3, h4⟩ := atT_app h2
    exact ⟨⟨h1, h3⟩, by rw [List.length_cons, show i + (a.length + 1) = i + 1 + a.length from by omega]; exact h4⟩
def tkT (s : ByteArray) (t : Tk) : Bool := (decide (t.kind = 5) || decide (t.kind = 6)) && decide (t.text = s)
theorem isT_tk (L : List PT) (i : Nat) (s : ByteArray) : isT L i s = tkT s (tk L i).1 := rfl
theorem isT_at {L : List PT} {i : Nat} {t : Tk} (h : (tk L i).1 = t) (s : ByteArray) : isT L i s = tkT s t := by rw [isT_tk, h]
def opK (k : Nat) (t : Tk) : Bool := (decide (t.kind = 5) || decide (t.kind = 6)) && (ops k).any (fun s => decide (s = t.text))
theorem opT_at {L : List PT} {i : Nat} {t : Tk} (h : (tk L i).1 = t) (k : Nat) : opT k (tk L i) = opK k t := by unfold opT opK isSW; rw [h]
theorem opK_high (k : Nat) (t : Tk) : opK (k + 2) t = opK 2 t := rfl
theorem opK_all {t : Tk} (h0 : opK 0 t = false) (h1 : opK 1 t = false) (h2 : opK 2 t = false) : ∀ k, opK k t = false
  | 0 => h0
  | 1 => h1
  | k + 2 => by rw [opK_high]; exact h2
/-- No more of a factor stands there. -/
structure StopF (t : Tk) : Prop where
  dot : tkT sDot t = false
  hat : tkT sHat t = false
  bra : tkT sBra t = false
  par : tkT sPar t = false
  cur : tkT sCur t = false
/-- .. nor of an expression. -/
structure StopE (t : Tk) : Prop extends StopF t where
  ops : ∀ k, opK k t = false
theorem stopE_of {t : Tk} (h1 : tkT sDot t = false) (h2 : tkT sHat t = false) (h3 : tkT sBra t = false) (h4 : tkT sPar t = false) (h5 : tkT sCur t = false) (h6 : opK 0 t = false) (h7 : opK 1 t = false) (h8 : opK 2 t = false) : StopE t :=
  ⟨⟨h1, h2, h3, h4, h5⟩, opK_all h6 h7 h8⟩
theorem stopE_rap : StopE (sy sRap) := stopE_of (by decide) (by decide) (by decide) (by decide) (by decide) (by decide) (by decide) (by decide)
theorem stopE_ket : StopE (sy sKet) := stopE_of (by decide) (by decide) (by decide) (by decide) (by decide) (by decide) (by decide) (by decide)
theorem stopE_com : StopE (sy sCom) := stopE_of (by decide) (by decide) (by decide) (by decide) (by decide) (by decide) (by decide) (by decide)
theorem stopE_ran : StopE (sy sRan) := stopE_of (by decide) (by decide) (by decide) (by decide) (by decide) (by decide) (by decide) (by decide)
theorem stopE_ruc : StopE (sy sRuc) := stopE_of (by decide) (by decide) (by decide) (by decide) (by decide) (by decide) (by decide) (by decide)
theorem stopE_no : StopE noTk := stopE_of (by decide) (by decide) (by decide) (by decide) (by decide) (by decide) (by decide) (by decide)
theorem op_facts : ∀ op, op < 15 → tkT sDot (opTk op) = false ∧ tkT sHat (opTk op) = false ∧ tkT sBra (opTk op) = false ∧ tkT sPar (opTk op) = false ∧ tkT sCur (opTk op) = false ∧ opK 0 (opTk op) = decide (opLev op = 0) ∧ opK 1 (opTk op) = decide (opLev op = 1) ∧ opK 2 (opTk op) = decide (opLev op = 2) ∧ (opLev op = 0 ∨ opLev op = 1 ∨ opLev op = 2) ∧ (opTk op).text = opB op := by decide
theorem stopF_op {op : Nat} (h : op < 15) : StopF (opTk op) := by
  obtain ⟨h1, h2, h3, h4, h5, _⟩ := op_facts op h
  exact ⟨h1, h2, h3, h4, h5⟩
theorem opK_op {op : Nat} (h : op < 15) (k : Nat) (hk : k ≤ 2) : opK k (opTk op) = decide (opLev op = k) := by
  obtain ⟨_, _, _, _, _, h0, h1, h2, _⟩ := op_facts op h
  obtain rfl | rfl | rfl : k = 0 ∨ k = 1 ∨ k = 2 := by omega
  · exact h0
  · exact h1
  · exact h2
section
variable {L : List PT} {i j : Nat}
theorem tk_lt {t : Tk} (h : (tk L i).1 = t) (ht : t.kind ≠ 0) : i < L.length := by
  rcases Nat.lt_or_ge i L.length with h1 | h1
  · exact h1
  · rw [tk_end h1] at h
    rw [← h] at ht
    exact absurd rfl ht
theorem name_at {c : UInt8} (h : (tk L i).1 = na c) : nameP L i = .ok (tk L i, i + 1) := by
  unfold nameP
  rw [if_pos (by rw [h]; rfl)]
theorem dots_stop {x : T1} (h : isT L i sDot = false) : ∀ f, dotsP L f x i = .ok (x, i)
  | 0 => rfl
  | f + 1 => by unfold dotsP; rw [h]; rfl
theorem des_stop {ex : Nat → Except Nat (T1 × Nat)} {x : T1} (h1 : isT L i sDot = false) (h2 : isT L i sHat = false) (h3 : isT L i sBra = false) : ∀ f, desP L ex f x i = .ok (x, i)
  | 0 => rfl
  | f + 1 => by unfold desP; rw [h1, h2, h3]; rfl
theorem commas_stop {ex : Nat → Except Nat (T1 × Nat)} {x : T1} (h1 : isT L i sCom = false) : ∀ f, commasP L ex f x i = .ok (x, i)
  | 0 => rfl
  | f + 1 => by unfold commasP; rw [h1]; rfl
theorem manyR_stop {ex : Nat → Except Nat (T1 × Nat)} {l : List T1} (h1 : isT L i sCom = false) : ∀ f, manyR L ex f l i = .ok (l, i)
  | 0 => rfl
  | f + 1 => by unfold manyR; rw [h1]; rfl
theorem design_name {ex : Nat → Except Nat (T1 × Nat)} {c : UInt8} (h : (tk L i).1 = na c) (hd : isT L (i + 1) sDot = false) : designP L ex i = desP L ex (L.length + 1) (mk 1 (pos L i) ⟨#[c]⟩ 0 []) (i + 1) := by
  unfold designP qualP
  rw [name_at h]
  dsimp only
  rw [dots_stop hd]
  dsimp only
  rw [h]
  rfl
/-- A factor that begins with a name. -/
theorem fact_name {c : UInt8} (h : (tk L i).1 = na c) : factE L i = (match designP L (exprG L (factP L L.length)) i with
      | .error k => .error k
      | .ok (x, j) => if plainT x = true ∧ isT L j sCur = true then (match betweenP L (elemP L (exprG L (factP L L.length))) sRuc (j + 1) with
          | .error k => .error k
          | .ok (l, j2) => .ok (mk 8 (pos L i) sNil 0 (x :: l), j2))
        else if isT L j sPar = true then (match betweenP L (exprG L (factP L L.length)) sRap (j + 1) with
          | .error k => .error k
          | .ok (l, j2) => .ok (mk 10 (pos L j) sNil 0 (x :: l), j2))
        else .ok (x, j)) := by
  have e : ∀ s, isT L i s = false := fun s => by rw [isT_at h]; rfl
  unfold factE factP
  rw [if_neg (by rw [h]; simp [na]), if_neg (by rw [e]; simp), if_neg (by rw [e]; simp), if_neg (by rw [e]; simp)]
  rfl
theorem bare_nm {c : UInt8} {p : Nat × Nat} : Bare (nm c) (mk 1 p ⟨#[c]⟩ 0 []) := bare_mk _ _ _ _ _ bareL_nil
theorem sg_at {t : Tk} (h : (tk L i).1 = t) (h1 : tkT sPlu t = false) (h2 : tkT sMin t = false) : sgT 1 (tk L i) = false := by
  unfold sgT
  rw [← isT_tT, ← isT_tT, isT_at h, isT_at h, h1, h2]
  rfl
theorem first_grown (g : Gr) : ∃ t l, g.toks = t :: l ∧ tkT sPlu t = false ∧ tkT sMin t = false ∧ tkT sRap t = false ∧ tkT sRuc t = false := by
  cases g <;> exact ⟨_, _, rfl, rfl, rfl, rfl, rfl⟩
theorem first_at {g : Gr} (h : AtT L i g.toks) : sgT 1 (tk L i) = false ∧ isT L i sRap = false ∧ isT L i sRuc = false := by
  obtain ⟨t, l, e, h1, h2, h3, h4⟩ := first_grown g
  rw [e] at h
  obtain ⟨h5, _⟩ := h
  exact ⟨sg_at h5 h1 h2, by rw [isT_at h5]; exact h3, by rw [isT_at h5]; exact h4⟩
theorem lev_sign {fac : Nat → Except Nat (T1 × Nat)} {x : T1} (hs : sgT 1 (tk L i) = true) (h : levD L fac 1 (i + 1) = .ok (x, j)) (hj : opT 1 (tk L j) = false) : levD L fac 2 i = .ok (mk 12 (pos L i) (tk L i).1.text 0 [x], j) := by
  have hg : signed L i (2 - 1) = true := hs
  unfold levD
  rw [hg, if_pos rfl, h]
  simp only [if_true]
  exact bins_stop hj
theorem lev_bin {fac : Nat → Except Nat (T1 × Nat)} {x y : T1} {d j2 : Nat} (hd : d ≤ 2) (h : levD L fac d i = .ok (x, j)) (hs : sgT 1 (tk L i) = false) (ho : opT (2 - d) (tk L j) = true) (hj : j < L.length) (h2 : levD L fac d (j + 1) = .ok (y, j2)) (h3 : opT (2 - d) (tk L j2) = false) :
    levD L fac (d + 1) i = .ok (mk 11 (pos L j) (tk L j).1.text 0 [x, y], j2) := by
  have hg : signed L i (2 - d) = false := sgT_low hs (2 - d)
  unfold levD
  rw [hg, if_neg (by simp), h]
  simp only [Bool.false_eq_true, if_false]
  obtain ⟨f, hf⟩ : ∃ f, L.length + 1 = f + 1 := ⟨_, rfl⟩
  rw [hf]
  unfold binsP
  rw [show isOp L j (2 - d) = opT (2 - d) (tk L j) from rfl, ho, if_pos rfl, h2]
  dsimp only
  by_cases hk : 2 - d = 0
  · rw [if_pos hk]
  · rw [if_neg hk]
    exact bins_stop h3
end
theorem expr_bin {L : List PT} {i j j2 op : Nat} {x y : T1} (hop : op < 15) (h : factE L i = .ok (x, j)) (hs : sgT 1 (tk L i) = false) (ht : (tk L j).1 = opTk op) (h2 : factE L (j + 1) = .ok (y, j2)) (hs2 : sgT 1 (tk L (j + 1)) = false) (hj2 : ∀ k, opT k (tk L j2) = false) :
    exprP L i = .ok (mk 11 (pos L j) (opB op) 0 [x, y], j2) := by
  have ho : ∀ k, k ≤ 2 → opT k (tk L j) = decide (opLev op = k) := fun k hk => by rw [opT_at ht]; exact opK_op hop k hk
  obtain ⟨_, _, _, _, _, _, _, _, hlev, htx⟩ := op_facts op hop
  have hjl : j < L.length := tk_lt ht (by unfold opTk; split <;> simp)
  rw [← htx, ← ht]
  rcases hlev with e | e | e
  · -- the outermost level
    have a1 : levD L (factE L) 1 i = .ok (x, j) := lev_step (d := 0) h hs (by rw [ho 2 (by omega), e]; rfl)
    have a2 : levD L (factE L) 2 i = .ok (x, j) := lev_step (d := 1) a1 hs (by rw [ho 1 (by omega), e]; rfl)
    have b1 : levD L (factE L) 1 (j + 1) = .ok (y, j2) := lev_step (d := 0) h2 hs2 (hj2 _)
    have b2 : levD L (factE L) 2 (j + 1) = .ok (y, j2) := lev_step (d := 1) b1 hs2 (hj2 _)
    exact lev_bin (d := 2) (by omega) a2 hs (by rw [ho 0 (by omega), e]; rfl) hjl b2 (hj2 _)
  · have a1 : levD L (factE L) 1 i = .ok (x, j) := lev_step (d := 0) h hs (by rw [ho 2 (by omega), e]; rfl)
    have b1 : levD L (factE L) 1 (j + 1) = .ok (y, j2) := lev_step (d := 0) h2 hs2 (hj2 _)
    have c := lev_bin (d := 1) (by omega) a1 hs (by rw [ho 1 (by omega), e]; rfl) hjl b1 (hj2 _)
    exact lev_step (d := 2) c hs (hj2 _)
  · have c := lev_bin (d := 0) (fac := factE L) (by omega) h hs (by rw [ho 2 (by omega), e]; rfl) hjl h2 (hj2 _)
    exact lev_step (d := 2) (lev_step (d := 1) c hs (hj2 _)) hs (hj2 _)
/-- A grown tree's tokens are read as that tree. -/
theorem fact_grown {L : List PT} : ∀ (g : Gr) (i : Nat), g.fits → AtT L i g.toks → StopF (tk L (i + g.toks.length)).1 → ∃ x, factE L i = .ok (x, i + g.toks.length) ∧ Bare g.tree x := by
  have ofF : ∀ {a : Gr} {i : Nat}, (∃ x, factE L i = .ok (x, i + a.toks.length) ∧ Bare a.tree x) → AtT L i a.toks → (∀ k, opT k (tk L (i + a.toks.length)) = false) → ∃ x, exprP L i = .ok (x, i + a.toks.length) ∧ Bare a.tree x := by
    rintro a i ⟨x, h1, h2⟩ h3 h4
    exact ⟨x, expr_of_fact' h1 (first_at h3).1 h4, h2⟩
  have opz : ∀ {j : Nat} {t : Tk}, (tk L j).1 = t → StopE t → ∀ k, opT k (tk L j) = false := fun h hs k => by rw [opT_at h]; exact hs.ops k
  intro g
  induction g with
  | z =>
    intro i _ ⟨h1, _⟩ hs
    have hs : StopF (tk L (i + 1)).1 := hs
    refine ⟨mk 1 (pos L i) ⟨#[122]⟩ 0 [], ?_, bare_nm⟩
    rw [fact_name h1, design_name h1 hs.dot, des_stop hs.dot hs.hat hs.bra]
    dsimp only
    rw [if_neg (by rw [isT_tk, hs.cur]; simp), if_neg (by rw [isT_tk, hs.par]; simp)]
    rfl
  | num n =>
    intro i _ ⟨h1, _⟩ hs
    refine ⟨mk 5 (pos L i) sNil n [], ?_, bare_mk _ _ _ _ _ bareL_nil⟩
    unfold factE factP
    rw [if_pos (by rw [h1]; simp), h1]
    rfl
  | str =>
    intro i _ ⟨h1, _⟩ hs
    refine ⟨mk 7 (pos L i) ⟨#[113]⟩ 0 [], ?_, bare_mk _ _ _ _ _ bareL_nil⟩
    unfold factE factP
    rw [if_pos (by rw [h1]; decide), h1]
    rfl
  | bin op a b iha ihb =>
    intro i ⟨hop, fa, fb⟩ ⟨h1, h⟩ hs
    obtain ⟨ha, h2, h⟩ := atT_app h
    obtain ⟨hb, h3, _⟩ := atT_app h
    obtain ⟨x, e1, b1⟩ := iha (i + 1) fa ha (by rw [h2]; exact stopF_op hop)
    obtain ⟨y, e2, b2⟩ := ihb _ fb hb (by rw [h3]; exact stopE_rap.toStopF)
    have e := expr_bin hop e1 (first_at ha).1 h2 e2 (first_at hb).1 (opz h3 stopE_rap)
    refine ⟨mk 11 (pos L (i + 1 + a.toks.length)) (opB op) 0 [x, y], ?_, bare_mk 11 (0, 0) _ (opB op) 0 (bareL_2 b1 b2)⟩
    rw [fact_par (by rw [isT_at h1]; rfl) e (by rw [isT_at h3]; rfl)]
    simp only [Gr.toks, List.length_cons, List.length_append, List.length_nil]
    congr 2
    omega
  | un op a iha =>
    intro i ⟨hop, fa⟩ ⟨h1, h2, h⟩ hs
    obtain ⟨ha, h3, _⟩ := atT_app h
    obtain ⟨x, e1, b1⟩ := iha _ fa ha (by rw [h3]; exact stopE_rap.toStopF)
    have hz := opz h3 stopE_rap
    have hlen : i + 1 + 1 + a.toks.length + 1 = i + (Gr.un op a).toks.length := by simp only [Gr.toks, List.length_cons, List.length_append, List.length_nil]; omega
    rw [← hlen]
    have key : ∃ y, exprP L (i + 1) = .ok (y, i + 1 + 1 + a.toks.length) ∧ Bare (Gr.un op a).tree y := by
      by_cases h4 : op = 2
      · subst h4
        have hk : ¬ (2 ≤ (tk L (i + 1)).1.kind ∧ (tk L (i + 1)).1.kind ≤ 4) := by rw [h2]; decide
        refine ⟨mk 12 (pos L (i + 1)) sNot 0 [x], expr_of_fact' ?_ (sg_at h2 (by decide) (by decide)) hz, bare_mk 12 (0, 0) _ sNot 0 (bareL_1 b1)⟩
        unfold factE factP
        rw [if_neg hk, if_neg (by rw [isT_at h2]; decide), if_pos (by rw [isT_at h2]; rfl), fact_in, e1]
      · have hsg : sgT 1 (tk L (i + 1)) = true := by
          unfold sgT
          rw [← isT_tT, ← isT_tT, isT_at h2, isT_at h2]
          obtain rfl | rfl : op = 0 ∨ op = 1 := by omega
          · rfl
          · rfl
        have htx : (tk L (i + 1)).1.text = unB op := by rw [h2]; rfl
        have c1 : levD L (factE L) 1 (i + 1 + 1) = .ok (x, i + 1 + 1 + a.toks.length) := lev_step (d := 0) e1 (first_at ha).1 (hz _)
        have c2 := lev_sign hsg c1 (hz _)
        refine ⟨mk 12 (pos L (i + 1)) (unB op) 0 [x], ?_, bare_mk 12 (0, 0) _ _ 0 (bareL_1 b1)⟩
        rw [htx] at c2
        have hg : signed L (i + 1) (2 - 2) = false := by unfold signed; rfl
        show levD L (factE L) 3 (i + 1) = _
        unfold levD
        rw [hg, if_neg (by simp), c2]
        simp only [Bool.false_eq_true, if_false]
        exact bins_stop (hz _)
    obtain ⟨y, e, b⟩ := key
    exact ⟨y, fact_par (by rw [isT_at h1]; rfl) e (by rw [isT_at h3]; rfl), b⟩
  | idx a iha =>
    intro i fa ⟨h1, h2, h⟩ hs
    obtain ⟨ha, h3, h4, h5, h6, _⟩ := atT_app h
    obtain ⟨x, e1, b1⟩ := ofF (iha _ fa ha (by rw [h3]; exact stopE_ket.toStopF)) ha (opz h3 stopE_ket)
    have hlen : i + 1 + 1 + a.toks.length + 1 + 1 + 1 + 1 = i + (Gr.idx a).toks.length := by simp only [Gr.toks, List.length_cons, List.length_append, List.length_nil]; omega
    have hL := tk_lt h6 (by simp [na])
    rw [← hlen] at hs ⊢
    generalize i + 1 + 1 + a.toks.length = j at *
    refine ⟨mk 2 (pos L (j + 1 + 1)) ⟨#[102]⟩ 0 [mk 4 (pos L (j + 1)) sNil 0 [mk 3 (pos L (i + 1)) sNil 0 [mk 1 (pos L i) ⟨#[118]⟩ 0 [], x]]], ?_, bare_mk _ _ _ _ _ (bareL_1 (bare_mk _ _ _ _ _ (bareL_1 (bare_mk _ _ _ _ _ (bareL_2 bare_nm b1)))))⟩
    have hd : designP L (exprG L (factP L L.length)) i = .ok (mk 2 (pos L (j + 1 + 1)) ⟨#[102]⟩ 0 [mk 4 (pos L (j + 1)) sNil 0 [mk 3 (pos L (i + 1)) sNil 0 [mk 1 (pos L i) ⟨#[118]⟩ 0 [], x]]], j + 1 + 1 + 1 + 1) := by
      rw [design_name h1 (by rw [isT_at h2]; decide)]
      obtain ⟨f, hf⟩ : ∃ f, L.length + 1 = f + 1 + 1 + 1 := ⟨L.length - 2, by omega⟩
      rw [hf]
      unfold desP
      rw [if_neg (by rw [isT_at h2]; decide), if_neg (by rw [isT_at h2]; decide), if_pos (by rw [isT_at h2]; rfl), expr_in, e1]
      dsimp only
      rw [commas_stop (by rw [isT_at h3]; rfl)]
      dsimp only
      unfold need
      rw [if_pos (by rw [isT_at h3]; rfl)]
      dsimp only
      unfold desP
      rw [if_neg (by rw [isT_at h4]; decide), if_pos (by rw [isT_at h4]; rfl)]
      unfold desP
      rw [if_pos (by rw [isT_at h5]; rfl)]
      unfold dotP need
      rw [if_pos (by rw [isT_at h5]; rfl)]
      dsimp only
      rw [name_at h6]
      dsimp only
      rw [des_stop hs.dot hs.hat hs.bra, h6]
      rfl
    rw [fact_name h1, hd]
    dsimp only
    rw [if_neg (by rw [isT_tk, hs.cur]; simp), if_neg (by rw [isT_tk, hs.par]; simp)]
  | call a b iha ihb =>
    intro i ⟨fa, fb⟩ ⟨h1, h2, h⟩ hs
    obtain ⟨ha, h3, h⟩ := atT_app h
    obtain ⟨hb, h4, _⟩ := atT_app h
    obtain ⟨x, e1, b1⟩ := ofF (iha _ fa ha (by rw [h3]; exact stopE_com.toStopF)) ha (opz h3 stopE_com)
    obtain ⟨y, e2, b2⟩ := ofF (ihb _ fb hb (by rw [h4]; exact stopE_rap.toStopF)) hb (opz h4 stopE_rap)
    have hlen : i + 1 + 1 + a.toks.length + 1 + b.toks.length + 1 = i + (Gr.call a b).toks.length := by simp only [Gr.toks, List.length_cons, List.length_append, List.length_nil]; omega
    rw [← hlen]
    have hfa := (first_at ha).2.1
    have hjj : i + 1 ≤ i + 1 + 1 + a.toks.length := by omega
    generalize i + 1 + 1 + a.toks.length = j at *
    generalize j + 1 + b.toks.length = j2 at *
    refine ⟨mk 10 (pos L (i + 1)) sNil 0 [mk 1 (pos L i) ⟨#[103]⟩ 0 [], x, y], ?_, bare_mk _ _ _ _ _ (bareL_cons bare_nm (bareL_2 b1 b2))⟩
    rw [fact_name h1, design_name h1 (by rw [isT_at h2]; decide), des_stop (by rw [isT_at h2]; decide) (by rw [isT_at h2]; decide) (by rw [isT_at h2]; decide)]
    dsimp only
    rw [if_neg (by rw [isT_at h2, show tkT sCur (sy sPar) = false from by decide]; simp), if_pos (by rw [isT_at h2]; rfl)]
    unfold betweenP
    rw [if_neg (by rw [hfa]; simp)]
    unfold manyP
    rw [expr_in, e1]
    dsimp only
    unfold manyR
    rw [if_pos (by rw [isT_at h3]; rfl), expr_fun L (j + 1) i (by omega), e2]
    dsimp only
    rw [manyR_stop (by rw [isT_at h4]; rfl)]
    dsimp only
    unfold need
    rw [if_pos (by rw [isT_at h4]; rfl)]
    rfl
  | rng a b iha ihb =>
    intro i ⟨fa, fb⟩ ⟨h1, h2, h⟩ hs
    obtain ⟨ha, h3, h⟩ := atT_app h
    obtain ⟨hb, h4, _⟩ := atT_app h
    obtain ⟨x, e1, b1⟩ := ofF (iha _ fa ha (by rw [h3]; exact stopE_ran.toStopF)) ha (opz h3 stopE_ran)
    obtain ⟨y, e2, b2⟩ := ofF (ihb _ fb hb (by rw [h4]; exact stopE_ruc.toStopF)) hb (opz h4 stopE_ruc)
    have hlen : i + 1 + 1 + a.toks.length + 1 + b.toks.length + 1 = i + (Gr.rng a b).toks.length := by simp only [Gr.toks, List.length_cons, List.length_append, List.length_nil]; omega
    rw [← hlen]
    have hfa := (first_at ha).2.2
    have hjj : i + 1 ≤ i + 1 + 1 + a.toks.length := by omega
    generalize i + 1 + 1 + a.toks.length = j at *
    generalize j + 1 + b.toks.length = j2 at *
    refine ⟨mk 8 (pos L i) sNil 0 [mk 1 (pos L i) ⟨#[83]⟩ 0 [], mk 9 (pos L (i + 1 + 1)) sNil 0 [x, y]], ?_, bare_mk _ _ _ _ _ (bareL_2 bare_nm (bare_mk _ _ _ _ _ (bareL_2 b1 b2)))⟩
    rw [fact_name h1, design_name h1 (by rw [isT_at h2]; decide), des_stop (by rw [isT_at h2]; decide) (by rw [isT_at h2]; decide) (by rw [isT_at h2]; decide)]
    dsimp only
    rw [if_pos ⟨rfl, by rw [isT_at h2]; rfl⟩]
    unfold betweenP
    rw [if_neg (by rw [hfa]; simp)]
    unfold manyP elemP
    rw [expr_in, e1]
    dsimp only
    rw [if_pos (by rw [isT_at h3]; rfl), expr_fun L (j + 1) i (by omega), e2]
    dsimp only
    rw [manyR_stop (by rw [isT_at h4]; rfl)]
    dsimp only
    unfold need
    rw [if_pos (by rw [isT_at h4]; rfl)]
theorem expr_grown {L : List PT} (g : Gr) (hg : g.fits) (i : Nat) (h : AtT L i g.toks) (hs : StopE (tk L (i + g.toks.length)).1) : ∃ x, exprP L i = .ok (x, i + g.toks.length) ∧ Bare g.tree x := by
  obtain ⟨x, e, b⟩ := fact_grown g i hg h hs.toStopF
  exact ⟨x, expr_of_fact' e (first_at h).1 (fun k => by rw [opT_at rfl]; exact hs.ops k), b⟩
end Go.Proofs.Ytnboenmkngjhmaa.Ex
