import Derived.Test.YtkemhmfdooghkaaGreatDoorX8
set_option linter.unusedSimpArgs false
set_option linter.unusedVariables false
set_option maxRecDepth 100000
set_option maxHeartbeats 6400000
set_option linter.unusedSectionVars false
namespace Go.Proofs.YtkemhmfdooghkaaGreatDoor
namespace Ex
open Tr (Nd Fo)
open Lx (Tk noTk lex lex_app lex_nil scan_lex bt)
def grownP : Nat → List (Nat × Nat) → Gr × Nat
 | 0, _ => (.z, 0)
 | _ + 1, [] => (.z, 0)
 | d + 1, (a, n) :: l =>
   if a % 9 ≤ 2 then (.bin (n % 15) (grownP d l).1 (grownP d (l.drop (grownP d l).2)).1, 1 + (grownP d l).2 + (grownP d (l.drop (grownP d l).2)).2)
   else if a % 9 = 3 then (.un (n % 3) (grownP d l).1, 1 + (grownP d l).2)
   else if a % 9 = 4 then (.num n, 1)
   else if a % 9 = 5 then (.idx (grownP d l).1, 1 + (grownP d l).2)
   else if a % 9 = 6 then (.call (grownP d l).1 (grownP d (l.drop (grownP d l).2)).1, 1 + (grownP d l).2 + (grownP d (l.drop (grownP d l).2)).2)
   else if a % 9 = 7 then (.rng (grownP d l).1 (grownP d (l.drop (grownP d l).2)).1, 1 + (grownP d l).2 + (grownP d (l.drop (grownP d l).2)).2)
   else (.str, 1)
theorem grownP_succ (d a n : Nat) (l : List (Nat × Nat)) : grownP (d + 1) ((a, n) :: l) =
 if a % 9 ≤ 2 then (.bin (n % 15) (grownP d l).1 (grownP d (l.drop (grownP d l).2)).1, 1 + (grownP d l).2 + (grownP d (l.drop (grownP d l).2)).2)
 else if a % 9 = 3 then (.un (n % 3) (grownP d l).1, 1 + (grownP d l).2)
 else if a % 9 = 4 then (.num n, 1)
 else if a % 9 = 5 then (.idx (grownP d l).1, 1 + (grownP d l).2)
 else if a % 9 = 6 then (.call (grownP d l).1 (grownP d (l.drop (grownP d l).2)).1, 1 + (grownP d l).2 + (grownP d (l.drop (grownP d l).2)).2)
 else if a % 9 = 7 then (.rng (grownP d l).1 (grownP d (l.drop (grownP d l).2)).1, 1 + (grownP d l).2 + (grownP d (l.drop (grownP d l).2)).2)
 else (.str, 1) := rfl
theorem op_sizes : ∀ k, k < 15 → (opTx k).length ≤ 3 := by decide
theorem un_sizes : ∀ k, k < 3 → (unT k).length ≤ 3 := by decide
theorem dec_length (n : Nat) (h : n ≤ 65535) : (Lib.decDigits n).length ≤ 5 := by
 have h1 : ∀ (k n : Nat), n < 10 ^ (k + 1) → (Lib.decDigits n).length ≤ k + 1 := by
  intro k
  induction k with
  | zero => intro n hn; rw [Num.dec_small n (by omega)]; simp
  | succ k ih =>
    intro n hn
    by_cases h9 : 9 < n
    ·rw [Num.dec_big n h9, List.length_append]
     have := ih (n / 10) (by rw [Nat.pow_succ] at hn; omega)
     simp only [List.length_singleton]
     omega
    ·rw [Num.dec_small n h9]; simp
 exact h1 4 n (by omega)
theorem grown_ok : ∀ (d : Nat) (l : List (Nat × Nat)), (∀ s ∈ l, s.2 ≤ 65535) → (grownP d l).1.fits ∧ (grownP d l).2 ≤ l.length ∧ (grownP d l).1.text.length ≤ 9 * (grownP d l).2 + 1
 | 0, l, _ => ⟨trivial, Nat.zero_le _, by simp [grownP, Gr.text]⟩
 | d + 1, [], _ => ⟨trivial, Nat.zero_le _, by simp [grownP, Gr.text]⟩
 | d + 1, (a, n) :: l, h => by
   have hl : ∀ s ∈ l, s.2 ≤ 65535 := fun s hs => h s (by simp [hs])
   have hn : n ≤ 65535 := h (a, n) (by simp)
   obtain ⟨f1, u1, t1⟩ := grown_ok d l hl
   obtain ⟨f2, u2, t2⟩ := grown_ok d (l.drop (grownP d l).2) (fun s hs => hl s (List.mem_of_mem_drop hs))
   rw [List.length_drop] at u2
   have ho := op_sizes (n % 15) (by omega)
   have hu := un_sizes (n % 3) (by omega)
   have hd := dec_length n hn
   unfold grownP
   generalize (grownP d l).1 = ga at *
   generalize (grownP d l).2 = k at *
   generalize (grownP d (l.drop k)).1 = gb at *
   generalize (grownP d (l.drop k)).2 = m at *
   split
   ·refine ⟨⟨by omega, f1, f2⟩, ?_, ?_⟩
    ·simp only [List.length_cons]; omega
    ·simp only [Gr.text, List.length_cons, List.length_append, List.length_nil]; omega
   ·split
    ·refine ⟨⟨by omega, f1⟩, ?_, ?_⟩
     ·simp only [List.length_cons]; omega
     ·simp only [Gr.text, List.length_cons, List.length_append, List.length_nil]; omega
    ·split
     ·refine ⟨hn, ?_, ?_⟩
      ·simp only [List.length_cons]; omega
      ·simp only [Gr.text]; omega
     ·split
      ·refine ⟨f1, ?_, ?_⟩
       ·simp only [List.length_cons]; omega
       ·simp only [Gr.text, List.length_cons, List.length_append, List.length_nil]; omega
      ·split
       ·refine ⟨⟨f1, f2⟩, ?_, ?_⟩
        ·simp only [List.length_cons]; omega
        ·simp only [Gr.text, List.length_cons, List.length_append, List.length_nil]; omega
       ·split
        ·refine ⟨⟨f1, f2⟩, ?_, ?_⟩
         ·simp only [List.length_cons]; omega
         ·simp only [Gr.text, List.length_cons, List.length_append, List.length_nil]; omega
        ·refine ⟨trivial, ?_, ?_⟩
         ·simp only [List.length_cons]; omega
         ·simp only [Gr.text, List.length_cons, List.length_nil]; omega
def gdeep : Gr → Nat
 | .bin _ a b => max (gdeep a) (gdeep b) + 1
 | .un _ a => gdeep a + 2
 | .idx a => gdeep a + 1
 | .call a b => max (gdeep a) (gdeep b) + 1
 | .rng a b => max (gdeep a) (gdeep b) + 1
 | _ => 0
theorem grown_deep : ∀ (d : Nat) (l : List (Nat × Nat)), gdeep (grownP d l).1 ≤ 2 * d
 | 0, l => Nat.le_refl _
 | d + 1, [] => Nat.zero_le _
 | d + 1, (a, n) :: l => by
   have h1 := grown_deep d l
   have h2 := grown_deep d (l.drop (grownP d l).2)
   unfold grownP
   generalize (grownP d l).1 = ga at *
   generalize (grownP d l).2 = k at *
   generalize (grownP d (l.drop k)).1 = gb at *
   split
   ·simp only [gdeep]; omega
   ·split
    ·simp only [gdeep]; omega
    ·split
     ·simp only [gdeep]; omega
     ·split
      ·simp only [gdeep]; omega
      ·split
       ·simp only [gdeep]; omega
       ·split
        ·simp only [gdeep]; omega
        ·simp only [gdeep]; omega
theorem atT_of {L : List PT} : ∀ (l : List Tk) (r : List Tk) (i : Nat), (∀ k, k < l.length → (tk L (i + k)).1 = ((l ++ r)[k]?).getD noTk) → AtT L i l
 | [], r, i, h => trivial
 | t :: l, r, i, h => by
   refine ⟨?_, atT_of l r (i + 1) fun k hk => ?_⟩
   ·have := h 0 (by simp)
    simpa using this
   ·have := h (k + 1) (by simp; omega)
    rw [show i + 1 + k = i + (k + 1) from by omega]
    simpa using this
end Ex
namespace St
open Go.RowKit
open Tr (Nd Fo)
open Lx (Tk noTk lex lex_app lex_nil lex_appS lex_sp)
open Ex
def wd (s : ByteArray) : Tk := ⟨6, s, 0⟩
def nu (n : Int) : Tk := ⟨2, sNil, n⟩
inductive Bx where
 | nil : Bx
 | emp (r : Bx) : Bx
 | st (k : Nat) (e : Gr) (b r : Bx) : Bx
def Bx.isNil : Bx → Bool
 | .nil => true
 | _ => false
def oneT (k : Nat) (e t : List Tk) : List Tk := match k with
 | 0 => wd sIf :: (e ++ wd sThen :: (t ++ wd sElsif :: na 97 :: wd sThen :: wd sElse :: (t ++ [wd sEnd])))
 | 1 => wd sWhile :: (e ++ wd sDo :: (t ++ [wd sEnd]))
 | 2 => wd sRepeat :: (t ++ wd sUntil :: e)
 | 3 => wd sLoop :: (t ++ [sy sSem, wd sExit, wd sEnd])
 | 4 => wd sFor :: na 105 :: sy sAsg :: (e ++ wd sTo :: (e ++ wd sBy :: nu 2 :: wd sDo :: (t ++ [wd sEnd])))
 | 5 => wd sCase :: (e ++ wd sOf :: nu 1 :: sy sCom :: nu 2 :: sy sRan :: nu 3 :: sy sCol :: (t ++ sy sBar :: nu 4 :: sy sCol :: wd sElse :: (t ++ [wd sEnd])))
 | 6 => wd sWith :: na 114 :: sy sDot :: na 97 :: sy sHat :: wd sDo :: (t ++ [wd sEnd])
 | 7 => na 118 :: sy sBra :: (e ++ sy sKet :: sy sAsg :: e)
 | 8 => na 102 :: sy sPar :: (e ++ [sy sRap])
 | 9 => [wd sExit]
 | _ => wd sReturn :: e
def Bx.toks : Bx → List Tk
 | .nil => []
 | .emp r => if r.isNil = true then [] else sy sSem :: r.toks
 | .st k e b r => oneT k e.toks b.toks ++ (if r.isNil = true then [] else sy sSem :: r.toks)
def Bx.fits : Bx → Prop
 | .nil => True
 | .emp r => r.fits
 | .st k e b r => (e.fits ∧ gdeep e ≤ 10) ∧ b.fits ∧ r.fits
def Bx.deep : Bx → Nat
 | .nil => 0
 | .emp r => r.deep
 | .st k e b r => if k ≤ 6 then max (b.deep + 1) r.deep else r.deep
def wds9 : List ByteArray := [sIf, sCase, sWhile, sRepeat, sLoop, sExit, sFor, sWith, sReturn]
structure StopS (t : Tk) : Prop extends StopE t where
 name : ¬ t.kind = 1
 words : wds9.all (fun s => !(decide (t.kind = 6) && decide (t.text = s))) = true
theorem stopS_of {t : Tk} (h : StopE t) (h1 : ¬ t.kind = 1) (h2 : wds9.all (fun s => !(decide (t.kind = 6) && decide (t.text = s))) = true) : StopS t := ⟨h, h1, h2⟩
theorem stopE_w (s : ByteArray) (h : tkT sDot (wd s) = false ∧ tkT sHat (wd s) = false ∧ tkT sBra (wd s) = false ∧ tkT sPar (wd s) = false ∧ tkT sCur (wd s) = false ∧ opK 0 (wd s) = false ∧ opK 1 (wd s) = false ∧ opK 2 (wd s) = false) : StopE (wd s) :=
 stopE_of h.1 h.2.1 h.2.2.1 h.2.2.2.1 h.2.2.2.2.1 h.2.2.2.2.2.1 h.2.2.2.2.2.2.1 h.2.2.2.2.2.2.2
theorem stopE_s (s : ByteArray) (h : tkT sDot (sy s) = false ∧ tkT sHat (sy s) = false ∧ tkT sBra (sy s) = false ∧ tkT sPar (sy s) = false ∧ tkT sCur (sy s) = false ∧ opK 0 (sy s) = false ∧ opK 1 (sy s) = false ∧ opK 2 (sy s) = false) : StopE (sy s) :=
 stopE_of h.1 h.2.1 h.2.2.1 h.2.2.2.1 h.2.2.2.2.1 h.2.2.2.2.2.1 h.2.2.2.2.2.2.1 h.2.2.2.2.2.2.2
theorem eS_sem : StopE (sy sSem) := stopE_s _ (by decide)
theorem eS_col : StopE (sy sCol) := stopE_s _ (by decide)
theorem eS_bar : StopE (sy sBar) := stopE_s _ (by decide)
theorem eW_then : StopE (wd sThen) := stopE_w _ (by decide)
theorem eW_do : StopE (wd sDo) := stopE_w _ (by decide)
theorem eW_of : StopE (wd sOf) := stopE_w _ (by decide)
theorem eW_to : StopE (wd sTo) := stopE_w _ (by decide)
theorem eW_by : StopE (wd sBy) := stopE_w _ (by decide)
theorem eW_end : StopE (wd sEnd) := stopE_w _ (by decide)
theorem eW_else : StopE (wd sElse) := stopE_w _ (by decide)
theorem eW_elsif : StopE (wd sElsif) := stopE_w _ (by decide)
theorem eW_until : StopE (wd sUntil) := stopE_w _ (by decide)
theorem sS_sem : StopS (sy sSem) := stopS_of eS_sem (by decide) (by decide)
theorem sS_bar : StopS (sy sBar) := stopS_of eS_bar (by decide) (by decide)
theorem sS_end : StopS (wd sEnd) := stopS_of eW_end (by decide) (by decide)
theorem sS_else : StopS (wd sElse) := stopS_of eW_else (by decide) (by decide)
theorem sS_elsif : StopS (wd sElsif) := stopS_of eW_elsif (by decide) (by decide)
theorem sS_until : StopS (wd sUntil) := stopS_of eW_until (by decide) (by decide)
section
variable {g : Nat} {bd : Par T1} {L : List PT} {j : Nat}
theorem k6M {s : ByteArray} {t : PT} (hk : ¬ t.1.kind = 6) : isWd6 s t = false := by unfold isWd6; simp [hk]
theorem stm_skipM : ∀ (l : List (ByteArray × (Nat × Nat → Par T1))), (∀ x ∈ l, isWd6 x.1 (tk L j) = false) → stmL g l L j = stmL g [] L j
 | [], _ => rfl
 | (s, q) :: r, h => (if_neg (by rw [h _ (List.mem_cons_self ..)]; simp)).trans (stm_skipM r fun x hx => h x (List.mem_cons_of_mem _ hx))
theorem stm_name (hk : (tk L j).1.kind = 1) : stmS g bd L j = bindP (plainS g) (fun x => retP [x]) L j := by
 refine (stm_skipM _ fun x _ => k6M (by rw [hk]; decide)).trans ?_
 show (if isNm (tk L j) = true then _ else _ : Par (List T1)) L j = _
 rw [if_pos (by unfold isNm; rw [hk]; rfl)]
theorem stm_none (hk : ¬ (tk L j).1.kind = 1) (h : ∀ x ∈ alts g bd, isWd6 x.1 (tk L j) = false) : stmS g bd L j = .ok ([], j) := by
 refine (stm_skipM _ h).trans ?_
 show (if isNm (tk L j) = true then _ else _ : Par (List T1)) L j = _
 rw [if_neg (by unfold isNm; simpa using hk)]
 rfl
theorem stm_at (hk : (tk L j).1.kind = 6) {s : ByteArray} (ht : (tk L j).1.text = s) : ∀ {l : List (ByteArray × (Nat × Nat → Par T1))} {q : Nat × Nat → Par T1}, l.find? (fun x => decide (x.1 = s)) = some (s, q) → stmL g l L j = bindP (q (tk L j).2.1) (fun x => retP [x]) L (j + 1)
 | [], q, h => by cases h
 | (s', q') :: l, q, h => by
   have hw : isWd6 s' (tk L j) = decide (s' = s) := by
    unfold isWd6
    rw [hk, ht]
    simp [eq_comm]
   rw [List.find?_cons] at h
   cases hd : decide (s' = s) with
   | true =>
     rw [hd] at h hw
     injection h with h
     injection h with h1 h2
     subst h1 h2
     exact if_pos hw
   | false =>
     rw [hd] at h hw
     exact (if_neg (by rw [hw]; simp)).trans (stm_at hk ht h)
variable (hk : (tk L j).1.kind = 6)
include hk
theorem stm_w0 (ht : (tk L j).1.text = sIf) : stmS g bd L j = bindP (ifS g bd (tk L j).2.1) (fun x => retP [x]) L (j + 1) := stm_at hk ht rfl
theorem stm_w1 (ht : (tk L j).1.text = sCase) : stmS g bd L j = bindP (caseS g bd (tk L j).2.1) (fun x => retP [x]) L (j + 1) := stm_at hk ht rfl
theorem stm_w2 (ht : (tk L j).1.text = sWhile) : stmS g bd L j = bindP (whileS g bd (tk L j).2.1) (fun x => retP [x]) L (j + 1) := stm_at hk ht rfl
theorem stm_w3 (ht : (tk L j).1.text = sRepeat) : stmS g bd L j = bindP (repS g bd (tk L j).2.1) (fun x => retP [x]) L (j + 1) := stm_at hk ht rfl
theorem stm_w4 (ht : (tk L j).1.text = sLoop) : stmS g bd L j = bindP (loopS bd (tk L j).2.1) (fun x => retP [x]) L (j + 1) := stm_at hk ht rfl
theorem stm_w5 (ht : (tk L j).1.text = sExit) : stmS g bd L j = bindP (exitS (tk L j).2.1) (fun x => retP [x]) L (j + 1) := stm_at hk ht rfl
theorem stm_w6 (ht : (tk L j).1.text = sFor) : stmS g bd L j = bindP (forS g bd (tk L j).2.1) (fun x => retP [x]) L (j + 1) := stm_at hk ht rfl
theorem stm_w7 (ht : (tk L j).1.text = sWith) : stmS g bd L j = bindP (withS g bd (tk L j).2.1) (fun x => retP [x]) L (j + 1) := stm_at hk ht rfl
theorem stm_w8 (ht : (tk L j).1.text = sReturn) : stmS g bd L j = bindP (returnS g (tk L j).2.1) (fun x => retP [x]) L (j + 1) := stm_at hk ht rfl
end
theorem stm_stop {g : Nat} {L : List PT} {i : Nat} {bd : Par T1} (h : StopS (tk L i).1) : stmS g bd L i = .ok ([], i) := by
 refine stm_none h.name fun x hx => ?_
 have hw := h.words
 rw [List.all_eq_true] at hw
 have h2 : ∀ s ∈ wds9, isWd6 s (tk L i) = false := fun s hs => by
  have := hw s hs
  unfold isWd6
  rw [Bool.not_eq_true'] at this
  exact this
 unfold alts at hx
 simp only [List.mem_cons, List.not_mem_nil, or_false] at hx
 rcases hx with rfl | rfl | rfl | rfl | rfl | rfl | rfl | rfl | rfl <;> exact h2 _ (by simp [wds9])
def oneX (k : Nat) (e t : List UInt8) : List UInt8 := match k with
 | 0 => [73, 70] ++ 32 :: (e ++ 32 :: ([84, 72, 69, 78] ++ 32 :: (t ++ 32 :: ([69, 76, 83, 73, 70] ++ 32 :: ([97] ++ 32 :: ([84, 72, 69, 78] ++ 32 :: ([69, 76, 83, 69] ++ 32 :: (t ++ 32 :: ([69, 78, 68])))))))))
 | 1 => [87, 72, 73, 76, 69] ++ 32 :: (e ++ 32 :: ([68, 79] ++ 32 :: (t ++ 32 :: ([69, 78, 68]))))
 | 2 => [82, 69, 80, 69, 65, 84] ++ 32 :: (t ++ 32 :: ([85, 78, 84, 73, 76] ++ 32 :: (e)))
 | 3 => [76, 79, 79, 80] ++ 32 :: (t ++ 59 :: 32 :: ([69, 88, 73, 84] ++ 32 :: ([69, 78, 68])))
 | 4 => [70, 79, 82] ++ 32 :: ([105] ++ 32 :: ([58, 61] ++ 32 :: (e ++ 32 :: ([84, 79] ++ 32 :: (e ++ 32 :: ([66, 89] ++ 32 :: ([50] ++ 32 :: ([68, 79] ++ 32 :: (t ++ 32 :: ([69, 78, 68]))))))))))
 | 5 => [67, 65, 83, 69] ++ 32 :: (e ++ 32 :: ([79, 70] ++ 32 :: ([49, 44] ++ 32 :: ([50] ++ 32 :: ([46, 46] ++ 32 :: ([51, 58] ++ 32 :: (t ++ 32 :: ([124] ++ 32 :: ([52, 58] ++ 32 :: ([69, 76, 83, 69] ++ 32 :: (t ++ 32 :: ([69, 78, 68]))))))))))))
 | 6 => [87, 73, 84, 72] ++ 32 :: ([114, 46, 97, 94] ++ 32 :: ([68, 79] ++ 32 :: (t ++ 32 :: ([69, 78, 68]))))
 | 7 => 118 :: 91 :: (e ++ 93 :: 32 :: ([58, 61] ++ 32 :: e))
 | 8 => 102 :: 40 :: (e ++ [41])
 | 9 => [69, 88, 73, 84]
 | _ => [82, 69, 84, 85, 82, 78] ++ 32 :: e
def Bx.text : Bx → List UInt8
 | .nil => []
 | .emp r => if r.isNil = true then [] else 59 :: 32 :: r.text
 | .st k e b r => oneX k e.text b.text ++ (if r.isNil = true then [] else 59 :: 32 :: r.text)
theorem lx0 : lex [73, 70] = some [wd sIf] := by kernel_rfl
theorem lx1 : lex [84, 72, 69, 78] = some [wd sThen] := by kernel_rfl
theorem lx2 : lex [69, 76, 83, 73, 70] = some [wd sElsif] := by kernel_rfl
theorem lx3 : lex [97] = some [na 97] := by kernel_rfl
theorem lx4 : lex [69, 76, 83, 69] = some [wd sElse] := by kernel_rfl
theorem lx5 : lex [69, 78, 68] = some [wd sEnd] := by kernel_rfl
theorem lx6 : lex [87, 72, 73, 76, 69] = some [wd sWhile] := by kernel_rfl
theorem lx7 : lex [68, 79] = some [wd sDo] := by kernel_rfl
theorem lx8 : lex [82, 69, 80, 69, 65, 84] = some [wd sRepeat] := by kernel_rfl
theorem lx9 : lex [85, 78, 84, 73, 76] = some [wd sUntil] := by kernel_rfl
theorem lx10 : lex [70, 79, 82] = some [wd sFor] := by kernel_rfl
theorem lx11 : lex [105] = some [na 105] := by kernel_rfl
theorem lx12 : lex [58, 61] = some [sy sAsg] := by kernel_rfl
theorem lx13 : lex [84, 79] = some [wd sTo] := by kernel_rfl
theorem lx14 : lex [66, 89] = some [wd sBy] := by kernel_rfl
theorem lx15 : lex [50] = some [nu 2] := by kernel_rfl
theorem lx16 : lex [67, 65, 83, 69] = some [wd sCase] := by kernel_rfl
theorem lx17 : lex [79, 70] = some [wd sOf] := by kernel_rfl
theorem lx18 : lex [49, 44] = some [nu 1, sy sCom] := by kernel_rfl
theorem lx19 : lex [46, 46] = some [sy sRan] := by kernel_rfl
theorem lx20 : lex [51, 58] = some [nu 3, sy sCol] := by kernel_rfl
theorem lx21 : lex [124] = some [sy sBar] := by kernel_rfl
theorem lx22 : lex [52, 58] = some [nu 4, sy sCol] := by kernel_rfl
theorem lx23 : lex [87, 73, 84, 72] = some [wd sWith] := by kernel_rfl
theorem lx24 : lex [114, 46, 97, 94] = some [na 114, sy sDot, na 97, sy sHat] := by kernel_rfl
theorem lx25 : lex [76, 79, 79, 80] = some [wd sLoop] := by kernel_rfl
theorem lx26 : lex [69, 88, 73, 84] = some [wd sExit] := by kernel_rfl
theorem lx27 : lex [82, 69, 84, 85, 82, 78] = some [wd sReturn] := by kernel_rfl
theorem lex_sem (r : List UInt8) : lex (59 :: r) = (lex r).map (sy sSem :: ·) := lex_sym1 59 r (by decide) (by decide) (by decide) (by decide) (by decide) rfl (by decide) (by decide)
theorem la {s r : List UInt8} {l : List Tk} (h : lex s = some l) : lex (s ++ 32 :: r) = (lex r).map (l ++ ·) := lex_app r _ s l nl h
theorem ls {s r : List UInt8} {l : List Tk} (h : lex s = some l) : lex (s ++ 59 :: r) = (lex (59 :: r)).map (l ++ ·) := lex_appS r _ s l nl h
theorem lex_joined {s r : List UInt8} {l m : List Tk} (h : lex s = some l) (h2 : lex r = some m) : lex (s ++ 59 :: 32 :: r) = some (l ++ sy sSem :: m) := by
 rw [ls h, lex_sem, lex_sp, h2]; rfl
section
variable {e t : List UInt8} {el tl : List Tk} (he : lex e = some el) (ht : lex t = some tl)
include he ht
theorem lexX0 : lex (oneX 0 e t) = some (oneT 0 el tl) := by
 show lex ([73, 70] ++ 32 :: (e ++ 32 :: ([84, 72, 69, 78] ++ 32 :: (t ++ 32 :: ([69, 76, 83, 73, 70] ++ 32 :: ([97] ++ 32 :: ([84, 72, 69, 78] ++ 32 :: ([69, 76, 83, 69] ++ 32 :: (t ++ 32 :: ([69, 78, 68])))))))))) = _
 rw [la lx0, la he, la lx1, la ht, la lx2, la lx3, la lx1, la lx4, la ht, lx5]
 simp [oneT]
theorem lexX1 : lex (oneX 1 e t) = some (oneT 1 el tl) := by
 show lex ([87, 72, 73, 76, 69] ++ 32 :: (e ++ 32 :: ([68, 79] ++ 32 :: (t ++ 32 :: ([69, 78, 68]))))) = _
 rw [la lx6, la he, la lx7, la ht, lx5]
 simp [oneT]
theorem lexX2 : lex (oneX 2 e t) = some (oneT 2 el tl) := by
 show lex ([82, 69, 80, 69, 65, 84] ++ 32 :: (t ++ 32 :: ([85, 78, 84, 73, 76] ++ 32 :: (e)))) = _
 rw [la lx8, la ht, la lx9, he]
 simp [oneT]
theorem lexX4 : lex (oneX 4 e t) = some (oneT 4 el tl) := by
 show lex ([70, 79, 82] ++ 32 :: ([105] ++ 32 :: ([58, 61] ++ 32 :: (e ++ 32 :: ([84, 79] ++ 32 :: (e ++ 32 :: ([66, 89] ++ 32 :: ([50] ++ 32 :: ([68, 79] ++ 32 :: (t ++ 32 :: ([69, 78, 68]))))))))))) = _
 rw [la lx10, la lx11, la lx12, la he, la lx13, la he, la lx14, la lx15, la lx7, la ht, lx5]
 simp [oneT]
theorem lexX5 : lex (oneX 5 e t) = some (oneT 5 el tl) := by
 show lex ([67, 65, 83, 69] ++ 32 :: (e ++ 32 :: ([79, 70] ++ 32 :: ([49, 44] ++ 32 :: ([50] ++ 32 :: ([46, 46] ++ 32 :: ([51, 58] ++ 32 :: (t ++ 32 :: ([124] ++ 32 :: ([52, 58] ++ 32 :: ([69, 76, 83, 69] ++ 32 :: (t ++ 32 :: ([69, 78, 68]))))))))))))) = _
 rw [la lx16, la he, la lx17, la lx18, la lx15, la lx19, la lx20, la ht, la lx21, la lx22, la lx4, la ht, lx5]
 simp [oneT]
theorem lexX6 : lex (oneX 6 e t) = some (oneT 6 el tl) := by
 show lex ([87, 73, 84, 72] ++ 32 :: ([114, 46, 97, 94] ++ 32 :: ([68, 79] ++ 32 :: (t ++ 32 :: ([69, 78, 68]))))) = _
 rw [la lx23, la lx24, la lx7, la ht, lx5]
 simp [oneT]
theorem lexX3 : lex (oneX 3 e t) = some (oneT 3 el tl) := by
 show lex ([76, 79, 79, 80] ++ 32 :: (t ++ 59 :: 32 :: ([69, 88, 73, 84] ++ 32 :: ([69, 78, 68])))) = _
 rw [la lx25, ls ht, lex_sem, lex_sp, la lx26, lx5]
 simp [oneT]
theorem lexX10 : lex ([82, 69, 84, 85, 82, 78] ++ 32 :: e) = some (wd sReturn :: el) := by
 rw [la lx27, he]
 rfl
end
theorem lexX7 (e : Gr) (he : e.fits) (t : List UInt8) (tl : List Tk) : lex (oneX 7 e.text t) = some (oneT 7 e.toks tl) := by
 show lex (118 :: 91 :: (e.text ++ 93 :: 32 :: ([58, 61] ++ 32 :: e.text))) = _
 rw [lex_name 118 _ (by decide) (by decide) (by decide) (brk_of (by decide)), lex_bra, lex_text e _ he (brk_of (by decide)), lex_ket, lex_sp, la lx12, lex_texts e he]
 simp [oneT]
theorem lexX8 (e : Gr) (he : e.fits) (t : List UInt8) (tl : List Tk) : lex (oneX 8 e.text t) = some (oneT 8 e.toks tl) := by
 show lex (102 :: 40 :: (e.text ++ [41])) = _
 rw [lex_name 102 _ (by decide) (by decide) (by decide) (brk_of (by decide)), lex_par _ (text_first e _), lex_text e _ he (brk_of (by decide)), lex_rap, lex_nil]
 simp [oneT]
theorem lexX (k : Nat) (e : Gr) (he : e.fits) {t : List UInt8} {tl : List Tk} (ht : lex t = some tl) : lex (oneX k e.text t) = some (oneT k e.toks tl) := by
 have h := lex_texts e he
 match k with
 | 0 => exact lexX0 h ht
 | 1 => exact lexX1 h ht
 | 2 => exact lexX2 h ht
 | 3 => exact lexX3 h ht
 | 4 => exact lexX4 h ht
 | 5 => exact lexX5 h ht
 | 6 => exact lexX6 h ht
 | 7 => exact lexX7 e he t tl
 | 8 => exact lexX8 e he t tl
 | 9 => exact lx26
 | k + 10 => exact lexX10 h ht
theorem lex_bx : ∀ x : Bx, x.fits → lex x.text = some x.toks
 | .nil, _ => rfl
 | .emp r, hf => by
   unfold Bx.text Bx.toks
   split
   ·rfl
   ·rw [lex_sem, lex_sp, lex_bx r hf]; rfl
 | .st k e b r, hf => by
   have h1 := lexX k e hf.1.1 (lex_bx b hf.2.1)
   unfold Bx.text Bx.toks
   split
   ·rw [List.append_nil, List.append_nil]; exact h1
   ·exact lex_joined h1 (lex_bx r hf.2.2)
theorem Bx.nil_of {r : Bx} (h : r.isNil = true) : r = .nil := by cases r <;> first | rfl | cases h
theorem one_len (k : Nat) (e t : List Tk) : 1 ≤ (oneT k e t).length ∧ (k ≤ 6 → t.length + 1 ≤ (oneT k e t).length) := by
 match k with
 | 0 => simp [oneT]; try omega
 | 1 => simp [oneT]; try omega
 | 2 => simp [oneT]; try omega
 | 3 => simp [oneT]; try omega
 | 4 => simp [oneT]; try omega
 | 5 => simp [oneT]; try omega
 | 6 => simp [oneT]; try omega
 | 7 => simp [oneT]
 | 8 => simp [oneT]
 | 9 => simp [oneT]
 | k + 10 => exact ⟨by simp [oneT], fun h => by omega⟩
theorem deep_le : ∀ x : Bx, x.deep ≤ x.toks.length
 | .nil => Nat.le_refl _
 | .emp r => by
   have := deep_le r
   unfold Bx.deep Bx.toks
   split
   ·rename_i h; have := Bx.nil_of h; subst this; exact Nat.le_refl _
   ·simp only [List.length_cons]; omega
 | .st k e b r => by
   have h1 := deep_le b
   have h2 := deep_le r
   have h3 := one_len k e.toks b.toks
   have h4 : r.deep ≤ (if r.isNil = true then [] else sy sSem :: r.toks).length := by
    split
    ·rename_i h; have := Bx.nil_of h; subst this; exact Nat.le_refl _
    ·simp only [List.length_cons]; omega
   unfold Bx.deep Bx.toks
   rw [List.length_append]
   split
   ·have := h3.2 (by assumption); omega
   ·omega
abbrev Prt := Nat × List (Nat × Nat)
def partB (k : Nat) (e : Gr) (b r : Bx) : Bx := if k = 8 then .st 8 e .nil (.st 10 e .nil r) else .st k e b r
def loopP (inner : List Prt → Bx × Nat) (most : Nat) : Nat → Nat → List Prt → Bx × Nat
 | 0, _, _ => (.nil, 0)
 | _ + 1, _, [] => (.nil, 0)
 | f + 1, n, (d, e) :: l => if n < most then
    (partB (d % 9) (grownP 5 e).1 (if d % 9 < 7 then inner l else (.nil, 0)).1 (loopP inner most f (if d % 9 = 8 then n + 2 else n + 1) (l.drop (if d % 9 < 7 then inner l else (.nil, 0)).2)).1,
      1 + (if d % 9 < 7 then inner l else (.nil, 0)).2 + (loopP inner most f (if d % 9 = 8 then n + 2 else n + 1) (l.drop (if d % 9 < 7 then inner l else (.nil, 0)).2)).2)
   else (.nil, 0)
def textP : Nat → Nat → List Prt → Bx × Nat
 | 0, most, l => loopP (fun _ => (.nil, 0)) most (l.length + 1) 0 l
 | d + 1, most, l => loopP (fun l' => textP d 2 l') most (l.length + 1) 0 l
def PFit (l : List Prt) : Prop := ∀ p ∈ l, p.1 < 256 ∧ ∀ s ∈ p.2, s.1 < 256 ∧ s.2 ≤ 65535
theorem part_fits {k : Nat} {e : Gr} {b r : Bx} (he : e.fits ∧ gdeep e ≤ 10) (hb : b.fits) (hr : r.fits) : (partB k e b r).fits := by
 unfold partB
 split
 ·exact ⟨he, trivial, he, trivial, hr⟩
 ·exact ⟨he, hb, hr⟩
theorem loop_ok {inner : List Prt → Bx × Nat} (hi : ∀ l, PFit l → (inner l).1.fits ∧ (inner l).2 ≤ l.length) (most : Nat) : ∀ (f n : Nat) (l : List Prt), PFit l → (loopP inner most f n l).1.fits ∧ (loopP inner most f n l).2 ≤ l.length
 | 0, n, l, _ => by rw [show loopP inner most 0 n l = (.nil, 0) by unfold loopP; rfl]; exact ⟨trivial, Nat.zero_le _⟩
 | f + 1, n, [], _ => by rw [show loopP inner most (f + 1) n [] = (.nil, 0) by unfold loopP; rfl]; exact ⟨trivial, Nat.zero_le _⟩
 | f + 1, n, (d, e) :: l, h => by
   have hl : PFit l := fun p hp => h p (List.mem_cons_of_mem _ hp)
   obtain ⟨he, _⟩ := grown_ok 5 e (fun s hs => ((h (d, e) (List.mem_cons_self ..)).2 s hs).2)
   have hin : (if d % 9 < 7 then inner l else (.nil, 0)).1.fits ∧ (if d % 9 < 7 then inner l else (.nil, 0)).2 ≤ l.length := by
    split
    ·exact hi l hl
    ·exact ⟨trivial, Nat.zero_le _⟩
   unfold loopP
   split
   ·generalize (if d % 9 < 7 then inner l else (.nil, 0)) = q at *
    have ih := loop_ok hi most f (if d % 9 = 8 then n + 2 else n + 1) (l.drop q.2) (fun p hp => hl p (List.mem_of_mem_drop hp))
    rw [List.length_drop] at ih
    refine ⟨part_fits ⟨he, grown_deep 5 e⟩ hin.1 ih.1, ?_⟩
    simp only [List.length_cons]
    omega
   ·exact ⟨trivial, Nat.zero_le _⟩
theorem text_ok : ∀ (d most : Nat) (l : List Prt), PFit l → (textP d most l).1.fits ∧ (textP d most l).2 ≤ l.length
 | 0, most, l, h => loop_ok (inner := fun _ => (Bx.nil, 0)) (fun l _ => ⟨(show Bx.nil.fits from trivial), Nat.zero_le _⟩) most _ _ l h
 | d + 1, most, l, h => loop_ok (fun l' h' => text_ok d 2 l' h') most _ _ l h
theorem oneX_len (k : Nat) (e t : List UInt8) : (oneX k e t).length ≤ 2 * t.length + 2 * e.length + 50 := by
 match k with
 | 0 => simp [oneX]; try omega
 | 1 => simp [oneX]; try omega
 | 2 => simp [oneX]; try omega
 | 3 => simp [oneX]; try omega
 | 4 => simp [oneX]; try omega
 | 5 => simp [oneX]; try omega
 | 6 => simp [oneX]; try omega
 | 7 => simp [oneX]; try omega
 | 8 => simp [oneX]; try omega
 | 9 => simp [oneX]; try omega
 | k + 10 => simp [oneX]; try omega
theorem grown_used : ∀ (d : Nat) (l : List (Nat × Nat)), (grownP d l).2 + 1 ≤ 2 ^ d
 | 0, l => by unfold grownP; exact Nat.le_refl _
 | d + 1, [] => by
   rw [show grownP (d + 1) [] = (.z, 0) by unfold grownP; rfl]
   exact Nat.one_le_two_pow
 | d + 1, (a, n) :: l => by
   have h1 := grown_used d l
   have h2 := grown_used d (l.drop (grownP d l).2)
   have h3 : 2 ^ (d + 1) = 2 ^ d * 2 := Nat.pow_succ _ _
   rw [grownP_succ]
   split
   ·simp only; omega
   ·split
    ·simp only; omega
    ·split
     ·simp only; omega
     ·split
      ·simp only; omega
      ·split
       ·simp only; omega
       ·split
        ·simp only; omega
        ·simp only; omega
theorem grown5 (l : List (Nat × Nat)) (h : ∀ s ∈ l, s.2 ≤ 65535) : (grownP 5 l).1.text.length ≤ 280 := by
 obtain ⟨_, _, h1⟩ := grown_ok 5 l h
 have h2 := grown_used 5 l
 omega
theorem part_len (k : Nat) {e : Gr} (he : e.text.length ≤ 280) (b r : Bx) : (partB k e b r).text.length ≤ 2 * b.text.length + r.text.length + 1300 := by
 have h1 : ∀ (j : Nat) (b r : Bx), (Bx.st j e b r).text.length ≤ 2 * b.text.length + 610 + (r.text.length + 2) := fun j b r => by
  have h2 := oneX_len j e.text b.text
  show (oneX j e.text b.text ++ (if r.isNil = true then [] else 59 :: 32 :: r.text)).length ≤ _
  rw [List.length_append]
  have h3 : (if r.isNil = true then [] else 59 :: 32 :: r.text).length ≤ r.text.length + 2 := by
   split
   ·exact Nat.zero_le _
   ·simp
  omega
 unfold partB
 split
 ·have h2 := h1 8 .nil (.st 10 e .nil r)
  have h3 := h1 10 .nil r
  have h4 : Bx.nil.text.length = 0 := rfl
  omega
 ·have := h1 k b r; omega
def lenB : Nat → Nat
 | 0 => 1300
 | d + 1 => 2 * lenB d + 1300
theorem loop_len {inner : List Prt → Bx × Nat} {B : Nat} (hi : ∀ l, PFit l → (inner l).1.text.length ≤ B * (inner l).2) (most : Nat) : ∀ (f n : Nat) (l : List Prt), PFit l → (loopP inner most f n l).1.text.length ≤ (2 * B + 1300) * (loopP inner most f n l).2
 | 0, n, l, _ => by rw [show loopP inner most 0 n l = (.nil, 0) by unfold loopP; rfl]; exact Nat.zero_le _
 | f + 1, n, [], _ => by rw [show loopP inner most (f + 1) n [] = (.nil, 0) by unfold loopP; rfl]; exact Nat.zero_le _
 | f + 1, n, (d, e) :: l, h => by
   have hl : PFit l := fun p hp => h p (List.mem_cons_of_mem _ hp)
   have he := grown5 e (fun s hs => ((h (d, e) (List.mem_cons_self ..)).2 s hs).2)
   have hin : (if d % 9 < 7 then inner l else (.nil, 0)).1.text.length ≤ B * (if d % 9 < 7 then inner l else (.nil, 0)).2 := by
    split
    ·exact hi l hl
    ·exact Nat.zero_le _
   unfold loopP
   split
   ·generalize (if d % 9 < 7 then inner l else (.nil, 0)) = q at *
    have ih := loop_len hi most f (if d % 9 = 8 then n + 2 else n + 1) (l.drop q.2) (fun p hp => hl p (List.mem_of_mem_drop hp))
    generalize loopP inner most f (if d % 9 = 8 then n + 2 else n + 1) (l.drop q.2) = r at *
    have hp := part_len (d % 9) he q.1 r.1
    show (partB (d % 9) (grownP 5 e).1 q.1 r.1).text.length ≤ (2 * B + 1300) * (1 + q.2 + r.2)
    rw [Nat.mul_add, Nat.mul_add]
    have h2 : (2 * B + 1300) * q.2 = 2 * (B * q.2) + 1300 * q.2 := by rw [Nat.add_mul, Nat.mul_assoc]
    omega
   ·exact Nat.zero_le _
theorem text_len : ∀ (d most : Nat) (l : List Prt), PFit l → (textP d most l).1.text.length ≤ lenB d * (textP d most l).2
 | 0, most, l, h => by
   have := loop_len (inner := fun _ => (Bx.nil, 0)) (B := 0) (fun l _ => Nat.zero_le _) most (l.length + 1) 0 l h
   simpa [textP, lenB] using this
 | d + 1, most, l, h => loop_len (fun l' h' => text_len d 2 l' h') most _ _ l h
end St
end Go.Proofs.YtkemhmfdooghkaaGreatDoor
