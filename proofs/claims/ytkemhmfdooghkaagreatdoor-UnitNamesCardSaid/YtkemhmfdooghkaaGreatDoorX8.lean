import Derived.Test.YtkemhmfdooghkaaGreatDoorX7
set_option linter.unusedSimpArgs false
set_option linter.unusedVariables false
set_option maxRecDepth 100000
set_option maxHeartbeats 6400000
namespace Go.Proofs.YtkemhmfdooghkaaGreatDoor
namespace Ex
open Tr (Nd Fo)
open Lx (Tk noTk scanL lex at_ item isB isL isD isP isX isW twos ones symN oneN bt lex_tok lex_app lex_nil scan_lex  valN valR dgt mkNum numX)
def Brk (r : List UInt8) : Prop := isP (r.head?.getD 0) = false
theorem run_one {p : UInt8 → Bool} {c : UInt8} (hc : p c = true) {r : List UInt8} (h : p (r.head?.getD 0) = false ∨ r = []) : Lx.runN p (c :: r) = 1 := by
 rw [Lx.runN_yes hc]
 rcases r with _ | ⟨a, r⟩
 ·rfl
 ·rcases h with h | h
  ·rw [Lx.runN_no (show p a = false from h)]
  ·cases h
theorem run_all {p : UInt8 → Bool} {r : List UInt8} (h : p (r.head?.getD 0) = false ∨ r = []) : ∀ l : List UInt8, (∀ c ∈ l, p c = true) → Lx.runN p (l ++ r) = l.length
 | [], _ => by
   rcases r with _ | ⟨a, r⟩
   ·rfl
   ·rcases h with h | h
    ·exact Lx.runN_no h r
    ·cases h
 | c :: l, hl => by
   rw [List.cons_append, Lx.runN_yes (hl c (by simp)), run_all h l (fun c hc => hl c (by simp [hc]))]
   rfl
theorem item_name {c : UInt8} {r : List UInt8} (hc : isL c = true) (hb : isB c = false) (hw : isW (bt [c]) = false) (h : Brk r) : item (c :: r) = .tok (na c) 1 := by
 unfold item
 rw [if_neg (by simp [hb]), if_neg]
 ·have : oneN (c :: r) = .ok (na c, 1) := by
   unfold oneN
   simp only [List.head?_cons, Option.getD_some, hc, if_true]
   have h1 : Lx.runN isP (c :: r) = 1 := run_one (by unfold isP; rw [hc]; rfl) (.inl h)
   rw [h1]
   simp only [List.take_succ_cons, List.take_zero, hw]
   rfl
  rw [this]
 ·intro e
  rcases r with _ | ⟨a, r⟩
  ·simp at e
  ·simp at e
   rw [e.1] at hc
   exact absurd hc (by decide)
theorem item_sym {c : UInt8} {r : List UInt8} (hb : isB c = false) (hl : isL c = false) (hd : isD c = false) (hq : ¬ (c = 34 ∨ c = 39)) (ho : ones.any (fun x => some c == some x) = true) (hp : Lx.plainT (bt [c]) = sy ⟨#[c]⟩)
 (h2 : ∀ x ∈ twos, x.data.toList ≠ (c :: r).take 2) (h3 : (c :: r).take 2 ≠ [40, 42]) : item (c :: r) = .tok (sy ⟨#[c]⟩) 1 := by
 have hs : symN (c :: r) = 1 := by
  unfold symN
  rw [if_neg, if_pos]
  ·exact ho
  ·rw [List.any_eq_true]
   rintro ⟨x, hx, e⟩
   exact h2 x hx (by simpa using e)
 unfold item
 rw [if_neg (by simp [hb]), if_neg h3]
 have : oneN (c :: r) = .ok (sy ⟨#[c]⟩, 1) := by
  unfold oneN
  simp only [List.head?_cons, Option.getD_some, hl, hd, hq, hs, Bool.false_eq_true, if_false]
  simp only [List.take_succ_cons, List.take_zero, hp]
  rfl
 rw [this]
theorem lex_one {c : UInt8} {r : List UInt8} {t : Tk} (h : item (c :: r) = .tok t 1) : lex (c :: r) = (lex r).map (t :: ·) := by
 rw [lex_tok (by simp) h]; rfl
theorem take2 (c : UInt8) (r : List UInt8) : (c :: r).take 2 = [c] ∧ r = [] ∨ ∃ a r', r = a :: r' ∧ (c :: r).take 2 = [c, a] := by
 rcases r with _ | ⟨a, r⟩
 ·exact .inl ⟨rfl, rfl⟩
 ·exact .inr ⟨a, r, rfl, rfl⟩
theorem lex_sym1 (c : UInt8) (r : List UInt8) (hb : isB c = false) (hl : isL c = false) (hd : isD c = false) (hq : ¬ (c = 34 ∨ c = 39)) (ho : ones.any (fun x => some c == some x) = true) (hp : Lx.plainT (bt [c]) = sy ⟨#[c]⟩)
 (h2 : ∀ x ∈ twos, x.data.toList.head? ≠ some c) (h3 : c ≠ 40) : lex (c :: r) = (lex r).map (sy ⟨#[c]⟩ :: ·) := by
 refine lex_one (item_sym hb hl hd hq ho hp (fun x hx e => h2 x hx (by rw [e]; rfl)) (fun e => ?_))
 rcases take2 c r with ⟨e2, _⟩ | ⟨a, r', _, e2⟩
 ·rw [e2] at e; simp at e
 ·rw [e2] at e; simp at e; exact h3 e.1
theorem lex_par (r : List UInt8) (h : r.head? ≠ some 42) : lex (40 :: r) = (lex r).map (sy sPar :: ·) := lex_one (item_par r h)
theorem lex_rap (r : List UInt8) : lex (41 :: r) = (lex r).map (sy sRap :: ·) := lex_one (item_rap r)
theorem lex_ket (r : List UInt8) : lex (93 :: r) = (lex r).map (sy sKet :: ·) := lex_sym1 93 r (by decide) (by decide) (by decide) (by decide) (by decide) rfl (by decide) (by decide)
theorem lex_bra (r : List UInt8) : lex (91 :: r) = (lex r).map (sy sBra :: ·) := lex_sym1 91 r (by decide) (by decide) (by decide) (by decide) (by decide) rfl (by decide) (by decide)
theorem lex_hat (r : List UInt8) : lex (94 :: r) = (lex r).map (sy sHat :: ·) := lex_sym1 94 r (by decide) (by decide) (by decide) (by decide) (by decide) rfl (by decide) (by decide)
theorem lex_com (r : List UInt8) : lex (44 :: r) = (lex r).map (sy sCom :: ·) := lex_sym1 44 r (by decide) (by decide) (by decide) (by decide) (by decide) rfl (by decide) (by decide)
theorem lex_cur (r : List UInt8) : lex (123 :: r) = (lex r).map (sy sCur :: ·) := lex_sym1 123 r (by decide) (by decide) (by decide) (by decide) (by decide) rfl (by decide) (by decide)
theorem lex_ruc (r : List UInt8) : lex (125 :: r) = (lex r).map (sy sRuc :: ·) := lex_sym1 125 r (by decide) (by decide) (by decide) (by decide) (by decide) rfl (by decide) (by decide)
theorem lex_dotf (r : List UInt8) (h : Brk r) : lex (46 :: 102 :: r) = (lex r).map (fun l => sy sDot :: na 102 :: l) := by
 rw [lex_one (item_sym (c := 46) (r := 102 :: r) (by decide) (by decide) (by decide) (by decide) (by decide) rfl (by show ∀ x ∈ twos, x.data.toList ≠ [46, 102]; decide) (by show [46, 102] ≠ [40, 42]; decide)),
  lex_one (item_name (by decide) (by decide) (by decide) h)]
 all_goals (cases lex r <;> rfl)
theorem lex_name (c : UInt8) (r : List UInt8) (hc : isL c = true) (hb : isB c = false) (hw : isW (bt [c]) = false) (h : Brk r) : lex (c :: r) = (lex r).map (na c :: ·) := lex_one (item_name hc hb hw h)
theorem lex_str (r : List UInt8) : lex (39 :: 113 :: 39 :: r) = (lex r).map (⟨4, ⟨#[113]⟩, 0⟩ :: ·) := by
 have h1 : oneN (39 :: 113 :: 39 :: r) = .ok (⟨4, ⟨#[113]⟩, 0⟩, 3) := by
  unfold oneN
  have h2 : Lx.runN (fun x : UInt8 => x != 39 && x != 10) (113 :: 39 :: r) = 1 := by
   rw [Lx.runN_yes (by decide), Lx.runN_no (by decide)]
  simp only [List.head?_cons, Option.getD_some, List.tail_cons, h2]
  rw [if_neg (show ¬ isL 39 = true by decide), if_neg (show ¬ isD 39 = true by decide), if_pos (show (39 : UInt8) = 34 ∨ True from .inr trivial), if_neg (by simp)]
  rfl
 have h3 : item (39 :: 113 :: 39 :: r) = .tok ⟨4, ⟨#[113]⟩, 0⟩ 3 := by
  unfold item
  rw [if_neg (show ¬ isB ((39 :: 113 :: 39 :: r : List UInt8).head?.getD 0) = true by simp [isB]), if_neg (by simp), h1]
 rw [lex_tok (by simp) h3]
 rfl
theorem valN_dec : ∀ (l : List UInt8) (n : Nat), Num.Digits l → Num.valFrom n l ≤ 65535 → valN 10 65535 n l = some (Num.valFrom n l)
 | [], n, _, h => by
   unfold valN
   rw [if_pos (show n ≤ 65535 from h)]; rfl
 | c :: l, n, hd, h => by
   have hc := hd c (by simp)
   rw [Num.valFrom_cons] at h ⊢
   have hge := Num.valFrom_ge l (10 * n + (c.toNat - 48))
   unfold valN
   have hg : dgt c = c.toNat - 48 := by unfold dgt; rw [if_neg (by omega)]
   rw [hg, if_neg (by omega), Nat.mul_comm n 10]
   exact valN_dec l _ (fun c hc => hd c (by simp [hc])) h
theorem valR_dec (n : Nat) (h : n ≤ 65535) : valR 10 65535 (Lib.decDigits n) = some n := by
 unfold valR
 rw [if_neg (Num.dec_ne n)]
 have hv : Num.valFrom 0 (Lib.decDigits n) = n := Num.val_dec n
 rw [valN_dec _ 0 (Num.dec_digits n) (by omega), hv]
theorem isD_of {c : UInt8} (h : 48 ≤ c.toNat ∧ c.toNat ≤ 57) : isD c = true := by unfold isD; simp [h.1, h.2]
theorem lex_num (n : Nat) (hn : n ≤ 65535) (r : List UInt8) (h : Brk r) : lex (Lib.decDigits n ++ r) = (lex r).map (⟨2, sNil, n⟩ :: ·) := by
 have hdig := Num.dec_digits n
 have hne := Num.dec_ne n
 have hval := valR_dec n hn
 generalize Lib.decDigits n = l at *
 obtain ⟨c, l', rfl⟩ : ∃ c l', l = c :: l' := by cases l <;> simp_all
 have hc := hdig c (by simp)
 have hx : isX (r.head?.getD 0) = false := by
  unfold Brk isP at h
  unfold isX
  rw [Bool.or_eq_false_iff] at h
  rw [h.2]
  have := h.1
  unfold isL at this
  simp only [Bool.false_or, Bool.and_eq_false_iff, decide_eq_false_iff_not, Bool.or_eq_false_iff] at this ⊢
  omega
 have hrun : Lx.runN isX (c :: l' ++ r) = (c :: l').length := run_all (.inl hx) _ (fun d hd => by unfold isX; rw [isD_of (hdig d hd)]; rfl)
 have h72 : ¬ (c :: l' ++ r)[(c :: l').length]? = some 72 := by
  rw [List.getElem?_append_right nl, Nat.sub_self]
  intro e
  unfold Brk at h
  rw [← List.head?_eq_getElem?] at e
  rw [e] at h
  exact absurd h (by decide)
 have hlast : ∃ x, (c :: l').getLast?.getD 0 = x ∧ x.toNat ≤ 57 := by
  refine ⟨_, rfl, ?_⟩
  cases e : (c :: l').getLast? with
  | none => simp
  | some x =>
    have := hdig x (List.mem_of_getLast? e)
    exact this.2
 obtain ⟨x, ex, hx57⟩ := hlast
 have hnum : Lx.numN (c :: l') = some ⟨2, sNil, n⟩ := by
  unfold Lx.numN numX
  rw [ex, if_neg (by intro e; rw [e] at hx57; exact absurd hx57 (by decide)), hval]
  rfl
 have hone : oneN (c :: l' ++ r) = .ok (⟨2, sNil, n⟩, (c :: l').length) := by
  unfold oneN
  have e1 : (c :: l' ++ r).head?.getD 0 = c := rfl
  have e2 : isL c = false := by unfold isL; simp; omega
  rw [e1, hrun]
  simp only [e2, isD_of hc, Bool.false_eq_true, if_false, if_true]
  rw [if_neg h72, List.take_left' rfl, hnum]
 have hit : item (c :: l' ++ r) = .tok ⟨2, sNil, n⟩ (c :: l').length := by
  have e3 : isB c = false := by unfold isB; simp only [Bool.or_eq_false_iff, beq_eq_false_iff_ne, ne_eq]; refine ⟨⟨⟨?_, ?_⟩, ?_⟩, ?_⟩ <;> (intro e; rw [e] at hc; exact absurd hc.1 (by decide))
  unfold item
  rw [show (c :: l' ++ r).head?.getD 0 = c from rfl, if_neg (by simp [e3]), if_neg, hone]
  intro e
  have : (c :: l' ++ r).head? = some 40 := by
   have e4 := congrArg List.head? e
   simpa using e4
  simp at this
  rw [this] at hc
  exact absurd hc.1 (by decide)
 rw [lex_tok (by simp) hit, List.drop_left' rfl]
def unT (k : Nat) : List UInt8 := (unB k).data.toList
def opTx (k : Nat) : List UInt8 := (opB k).data.toList
def Gr.text : Gr → List UInt8
 | .z => [122]
 | .bin op a b => 40 :: (a.text ++ 32 :: (opTx op ++ 32 :: (b.text ++ [41])))
 | .un op a => 40 :: (unT op ++ 32 :: (a.text ++ [41]))
 | .num n => Lib.decDigits n
 | .idx a => 118 :: 91 :: (a.text ++ [93, 94, 46, 102])
 | .call a b => 103 :: 40 :: (a.text ++ 44 :: 32 :: (b.text ++ [41]))
 | .rng a b => 83 :: 123 :: (a.text ++ 32 :: 46 :: 46 :: 32 :: (b.text ++ [125]))
 | .str => [39, 113, 39]
theorem lex_ops : ∀ k, k < 15 → lex (opTx k) = some [opTk k] := by
 intro k hk
 iterate 15 (rcases k with _ | k; · kernel_rfl)
 omega
theorem lex_uns : ∀ k, k < 3 → lex (unT k) = some [unTk k] ∧ (unT k).head? ≠ some 42 ∧ unT k ≠ [] := by
 intro k hk
 iterate 3 (rcases k with _ | k; · exact ⟨by kernel_rfl, by decide, by decide⟩)
 omega
theorem lex_rans : lex [46, 46] = some [sy sRan] := by kernel_rfl
theorem dec_first (n : Nat) (r : List UInt8) : (Lib.decDigits n ++ r).head? ≠ some 42 := by
 have h1 := Num.dec_digits n
 have h2 := Num.dec_ne n
 generalize Lib.decDigits n = l at *
 obtain ⟨c, l', rfl⟩ : ∃ c l', l = c :: l' := by cases l <;> simp_all
 intro e
 simp at e
 have := (h1 c (by simp)).1
 rw [e] at this
 exact absurd this (by decide)
theorem text_first (g : Gr) (r : List UInt8) : (g.text ++ r).head? ≠ some 42 := by
 cases g with
 | num n => exact dec_first n r
 | z => simp [Gr.text]
 | str => simp [Gr.text]
 | bin op a b => simp [Gr.text]
 | un op a => simp [Gr.text]
 | idx a => simp [Gr.text]
 | call a b => simp [Gr.text]
 | rng a b => simp [Gr.text]
theorem map_map_o {α β γ : Type} (f : α → β) (g : β → γ) (x : Option α) : (x.map f).map g = x.map (fun a => g (f a)) := by cases x <;> rfl
theorem brk_of {c : UInt8} {r : List UInt8} (h : isP c = false) : Brk (c :: r) := h
theorem brk_sp (r : List UInt8) : Brk (32 :: r) := brk_of (by decide)
theorem lex_text : ∀ (g : Gr) (r : List UInt8), g.fits → Brk r → lex (g.text ++ r) = (lex r).map (g.toks ++ ·)
 | .z, r, _, h => lex_name 122 r (by decide) (by decide) (by decide) h
 | .str, r, _, h => lex_str r
 | .num n, r, hf, h => lex_num n hf r h
 | .bin op a b, r, ⟨hop, fa, fb⟩, h => by
   have e1 : (Gr.bin op a b).text ++ r = 40 :: (a.text ++ 32 :: (opTx op ++ 32 :: (b.text ++ 41 :: r))) := by simp [Gr.text]
   rw [e1, lex_par _ (text_first a _), lex_text a _ fa (brk_sp _), Lx.lex_sp, lex_app _ _ _ _ nl (lex_ops op hop), lex_text b _ fb (brk_of (by decide)), lex_rap]
   simp only [map_map_o, Gr.toks, List.cons_append, List.append_assoc, List.nil_append]
 | .un op a, r, ⟨hop, fa⟩, h => by
   obtain ⟨h1, h2, h3⟩ := lex_uns op hop
   have e1 : (Gr.un op a).text ++ r = 40 :: (unT op ++ 32 :: (a.text ++ 41 :: r)) := by simp [Gr.text]
   rw [e1, lex_par _ (by rw [Lx.head_app h3]; exact h2), lex_app _ _ _ _ nl h1, lex_text a _ fa (brk_of (by decide)), lex_rap]
   simp only [map_map_o, Gr.toks, List.cons_append, List.append_assoc, List.nil_append]
 | .idx a, r, fa, h => by
   have e1 : (Gr.idx a).text ++ r = 118 :: 91 :: (a.text ++ 93 :: 94 :: 46 :: 102 :: r) := by simp [Gr.text]
   rw [e1, lex_name 118 _ (by decide) (by decide) (by decide) (brk_of (by decide)), lex_bra, lex_text a _ fa (brk_of (by decide)), lex_ket, lex_hat, lex_dotf r h]
   simp only [map_map_o, Gr.toks, List.cons_append, List.append_assoc, List.nil_append]
 | .call a b, r, ⟨fa, fb⟩, h => by
   have e1 : (Gr.call a b).text ++ r = 103 :: 40 :: (a.text ++ 44 :: 32 :: (b.text ++ 41 :: r)) := by simp [Gr.text]
   rw [e1, lex_name 103 _ (by decide) (by decide) (by decide) (brk_of (by decide)), lex_par _ (text_first a _), lex_text a _ fa (brk_of (by decide)), lex_com, Lx.lex_sp, lex_text b _ fb (brk_of (by decide)), lex_rap]
   simp only [map_map_o, Gr.toks, List.cons_append, List.append_assoc, List.nil_append]
 | .rng a b, r, ⟨fa, fb⟩, h => by
   have e1 : (Gr.rng a b).text ++ r = 83 :: 123 :: (a.text ++ 32 :: ([46, 46] ++ 32 :: (b.text ++ 125 :: r))) := by simp [Gr.text]
   rw [e1, lex_name 83 _ (by decide) (by decide) (by decide) (brk_of (by decide)), lex_cur, lex_text a _ fa (brk_sp _), Lx.lex_sp, lex_app _ _ _ _ nl lex_rans, lex_text b _ fb (brk_of (by decide)), lex_ruc]
   simp only [map_map_o, Gr.toks, List.cons_append, List.append_assoc, List.nil_append]
theorem lex_texts (g : Gr) (hg : g.fits) : lex g.text = some g.toks := by
 have := lex_text g [] hg (show isP 0 = false by decide)
 rw [List.append_nil] at this
 rw [this, lex_nil]
 simp
end Ex
namespace Lx
open Go.RowKit
open Pl Fl
theorem runN_appS (p : UInt8 → Bool) (hp : p 59 = false) (r : List UInt8) : ∀ s : List UInt8, runN p (s ++ 59 :: r) = runN p s
 | [] => by rw [List.nil_append, runN_no hp, runN_nil]
 | c :: s => by
   rw [List.cons_append]
   cases h : p c
   ·rw [runN_no h, runN_no h]
   ·rw [runN_yes h, runN_yes h, runN_appS p hp r s]
theorem take2_appS {s r : List UInt8} (hs : s ≠ []) (x : List UInt8) (hx : x.length = 2) (hb : x[1]? ≠ some 59) : ((s ++ 59 :: r).take 2 = x) = (s.take 2 = x) := by
 rcases s with _ | ⟨a, _ | ⟨b, t⟩⟩
 ·exact absurd rfl hs
 ·apply propext
  constructor
  ·intro h
   subst h
   simp at hb
  ·intro h
   subst h
   simp at hx
 ·rfl
theorem oneN_appS {s : List UInt8} (hs : s ≠ []) {t : Tk} {n : Nat} (h : oneN s = .ok (t, n)) (r : List UInt8) : oneN (s ++ 59 :: r) = .ok (t, n) := by
 have hbd := oneN_bd s hs t n h
 have htk : ∀ m, m ≤ s.length → (s ++ 59 :: r).take m = s.take m := fun m hm => List.take_append_of_le_length hm
 unfold oneN at h ⊢
 rw [head_app hs]
 dsimp only at h ⊢
 by_cases h1 : isL (s.head?.getD 0) = true
 ·rw [if_pos h1] at h ⊢
  rw [runN_appS isP rfl, htk _ (runN_le isP s)]
  exact h
 rw [if_neg h1] at h ⊢
 by_cases h2 : isD (s.head?.getD 0) = true
 ·rw [if_pos h2] at h ⊢
  rw [runN_appS isX rfl]
  have hle := runN_le isX s
  have h72 : ((s ++ 59 :: r)[runN isX s]? = some 72) = (s[runN isX s]? = some 72) := by
   rcases Nat.lt_or_ge (runN isX s) s.length with hlt | hge
   ·rw [List.getElem?_append_left hlt]
   ·have he : runN isX s = s.length := by omega
    rw [he, List.getElem?_append_right nl, Nat.sub_self, List.getElem?_eq_none nl]
    simp
  have hn : (if (s ++ 59 :: r)[runN isX s]? = some 72 then runN isX s + 1 else runN isX s) = (if s[runN isX s]? = some 72 then runN isX s + 1 else runN isX s) := by
   by_cases h3 : s[runN isX s]? = some 72
   ·rw [if_pos h3, if_pos (by rw [h72]; exact h3)]
   ·rw [if_neg h3, if_neg (by rw [h72]; exact h3)]
  rw [hn, htk]
  ·exact h
  ·by_cases h3 : s[runN isX s]? = some 72
   ·rw [if_pos h3]
    obtain ⟨h5, _⟩ := List.getElem?_eq_some_iff.1 h3
    omega
   ·rw [if_neg h3]; exact hle
 rw [if_neg h2] at h ⊢
 by_cases h3 : s.head?.getD 0 = 34 ∨ s.head?.getD 0 = 39
 ·rw [if_pos h3] at h ⊢
  have hta : (s ++ 59 :: r).tail = s.tail ++ 59 :: r := by cases s <;> simp_all
  rw [hta]
  have htl : s.tail.length = s.length - 1 := List.length_tail
  split at h
  ·cases h
  ·rename_i h4
   have h5 : 1 + runN (fun x => x != s.head?.getD 0 && x != 10) s.tail < s.length := by
    rcases Nat.lt_or_ge (1 + runN (fun x => x != s.head?.getD 0 && x != 10) s.tail) s.length with hlt | hge
    ·exact hlt
    ·exact absurd (.inl (List.getElem?_eq_none hge)) h4
   rw [runN_app' _ _ _ (by omega)]
   rw [List.getElem?_append_left h5, if_neg h4, htk _ (by omega)]
   exact h
 rw [if_neg h3] at h ⊢
 have hsym : symN (s ++ 59 :: r) = symN s := by
  unfold symN
  rw [head_app hs]
  have : (twos.any fun x => x.data.toList == (s ++ 59 :: r).take 2) = (twos.any fun x => x.data.toList == s.take 2) := by
   rw [Bool.eq_iff_iff]
   simp only [List.any_eq_true, beq_iff_eq]
   have hx : ∀ x ∈ twos, x.data.toList.length = 2 ∧ x.data.toList[1]? ≠ some 59 := by decide
   constructor
   ·rintro ⟨x, hm, e⟩
    exact ⟨x, hm, ((take2_appS hs _ (hx x hm).1 (hx x hm).2) ▸ e.symm : s.take 2 = x.data.toList).symm⟩
   ·rintro ⟨x, hm, e⟩
    exact ⟨x, hm, ((take2_appS hs _ (hx x hm).1 (hx x hm).2).symm ▸ e.symm : (s ++ 59 :: r).take 2 = x.data.toList).symm⟩
  rw [this]
 rw [hsym]
 split at h
 ·cases h
 ·rename_i h4
  rw [if_neg h4, htk _ (symN_le s hs)]
  exact h
theorem item_appS {s : List UInt8} (hs : s ≠ []) (hb : ∀ k, item s ≠ .bad k) (r : List UInt8) : item (s ++ 59 :: r) = item s := by
 unfold item at hb ⊢
 rw [head_app hs]
 have e2 := take2_appS (r := r) hs [40, 42] rfl (by simp)
 by_cases h1 : isB (s.head?.getD 0) = true
 ·rw [if_pos h1, if_pos h1]
 rw [if_neg h1] at hb ⊢
 rw [if_neg h1]
 by_cases h2 : s.take 2 = [40, 42]
 ·rw [if_pos h2] at hb
  rw [if_pos h2, if_pos (e2.symm ▸ h2)]
  have hc : cmt 0 0 s ≠ 0 := fun e => by rw [if_pos e] at hb; exact hb _ rfl
  rw [cmt_app _ _ _ _ _ nl hc]
 ·rw [if_neg h2] at hb
  rw [if_neg h2, if_neg (fun e => h2 (e2 ▸ e))]
  cases h3 : oneN s with
  | error k => rw [h3] at hb; exact absurd rfl (hb k)
  | ok x =>
    obtain ⟨t, n⟩ := x
    rw [oneN_appS hs h3]
theorem lex_appS (r : List UInt8) : ∀ (m : Nat) (s : List UInt8) (l : List Tk), s.length ≤ m → lex s = some l → lex (s ++ 59 :: r) = (lex (59 :: r)).map (l ++ ·) := by
 intro m
 induction m with
 | zero =>
   intro s l hm h
   have : s = [] := List.length_eq_zero_iff.1 (by omega)
   subst this
   cases h
   rw [List.nil_append]
   all_goals (cases lex (59 :: r) <;> rfl)
 | succ m ih =>
   intro s l hm h
   by_cases hs : s = []
   ·subst hs
    cases h
    rw [List.nil_append]
    all_goals (cases lex (59 :: r) <;> rfl)
   ·obtain ⟨h1, h2⟩ := item_bd s hs
    have hne : s ++ 59 :: r ≠ [] := by simp
    have hb : ∀ k, item s ≠ .bad k := fun k e => by rw [lex_step hs, e] at h; cases h
    have hi := item_appS hs hb r
    cases e : item s with
    | bad k => exact absurd e (hb k)
    | blank n =>
      have := h1 n e
      rw [lex_blank hs e] at h
      rw [lex_blank hne (hi.trans e), List.drop_append_of_le_length this.2]
      exact ih _ l (by rw [List.length_drop]; omega) h
    | tok t n =>
      have := h2 t n e
      rw [lex_tok hs e] at h
      rw [lex_tok hne (hi.trans e), List.drop_append_of_le_length this.2]
      cases e2 : lex (s.drop n) with
      | none => rw [e2] at h; cases h
      | some l2 =>
        rw [e2] at h
        cases h
        rw [ih _ l2 (by rw [List.length_drop]; omega) e2]
        all_goals (cases lex (59 :: r) <;> rfl)
end Lx
end Go.Proofs.YtkemhmfdooghkaaGreatDoor
