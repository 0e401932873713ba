import Derived.Test.YtkemhmfdooghkaaGreatDoorX9
set_option linter.unusedSimpArgs false
set_option linter.unusedVariables false
set_option maxRecDepth 100000
set_option maxHeartbeats 6400000
namespace Go.Proofs.YtkemhmfdooghkaaGreatDoor
namespace Rn
open Tr (Nd Fo)
open Lx (Tk noTk)
open Ex
open St (wd nu isNm isWd6 sSem sEnd)
def Runs {α : Type} (Q : α → Prop) (p : Par α) (L : List PT) (i j : Nat) : Prop := ∃ a, p L i = .ok (a, j) ∧ Q a
def Rn {α : Type} (p : Par α) (L : List PT) (i j : Nat) : Prop := Runs (fun _ => True) p L i j
section
variable {α β : Type} {P : α → Prop} {Q : β → Prop} {p : Par α} {q : α → Par β} {r : Par β} {A : PT → Par β} {B : Par β} {L : List PT} {i j k : Nat} {t : Tk} {s : ByteArray}
theorem runs_bind (h : Runs P p L i j) (h2 : ∀ a, P a → Runs Q (q a) L j k) : Runs Q (bindP p q) L i k := by
 obtain ⟨a, e, ha⟩ := h
 obtain ⟨b, e2, hb⟩ := h2 a ha
 exact ⟨b, by unfold bindP; rw [e]; exact e2, hb⟩
theorem rn_bind (h : Rn p L i j) (h2 : ∀ a, Runs Q (q a) L j k) : Runs Q (bindP p q) L i k := runs_bind h fun a _ => h2 a
theorem runs_ret {a : β} (h : Q a) : Runs Q (retP a) L i i := ⟨a, rfl, h⟩
theorem rn_ret {a : β} : Rn (retP a) L i i := ⟨a, rfl, trivial⟩
theorem Runs.rn (h : Runs Q r L i j) : Rn r L i j := by obtain ⟨a, e, _⟩ := h; exact ⟨a, e, trivial⟩
theorem Rn.to {r : Par β} (h : Rn r L i j) (e : j = k) : Rn r L i k := e ▸ h
theorem tT_k (h : (tk L i).1 = t) : tT s (tk L i) = tkT s t := isT_at h s
theorem runs_y (h : (tk L i).1 = t) (hs : tkT s t = true) (h2 : ∀ u : PT, u.1 = t → Runs Q (A u) L (i + 1) k) : Runs Q (tokP (tT s) A B) L i k := by
 obtain ⟨b, e, hb⟩ := h2 _ h
 exact ⟨b, (if_pos ((tT_k h).trans hs)).trans e, hb⟩
theorem runs_n (h : (tk L i).1 = t) (hs : tkT s t = false) (h2 : Runs Q B L i k) : Runs Q (tokP (tT s) A B) L i k := by
 obtain ⟨b, e, hb⟩ := h2
 exact ⟨b, (if_neg (by rw [tT_k h, hs]; simp)).trans e, hb⟩
theorem runs_need (h : (tk L i).1 = t) (hs : tkT s t = true) (h2 : Runs Q r L (i + 1) k) : Runs Q (needF s r) L i k := runs_y h hs fun _ _ => h2
theorem runs_nm (h : (tk L i).1 = t) (hs : t.kind = 1) (h2 : ∀ u : PT, u.1 = t → Runs Q (A u) L (i + 1) k) : Runs Q (tokP isNm A B) L i k := by
 obtain ⟨b, e, hb⟩ := h2 _ h
 exact ⟨b, (if_pos (by unfold isNm; rw [h, hs]; rfl)).trans e, hb⟩
theorem runs_pos {f : PT → Par β} (h : (tk L i).1 = t) (h2 : ∀ u : PT, u.1 = t → Runs Q (f u) L i k) : Runs Q (posP f) L i k := h2 _ h
theorem runs_w (h : (tk L i).1 = t) (hs : (decide (t.kind = 6) && decide (t.text = s)) = true) (h2 : ∀ u : PT, u.1 = t → Runs Q (A u) L (i + 1) k) : Runs Q (tokP (isWd6 s) A B) L i k := by
 obtain ⟨b, e, hb⟩ := h2 _ h
 exact ⟨b, (if_pos (by unfold isWd6; rw [h]; exact hs)).trans e, hb⟩
theorem runs_wn (h : (tk L i).1 = t) (hs : (decide (t.kind = 6) && decide (t.text = s)) = false) (h2 : Runs Q B L i k) : Runs Q (tokP (isWd6 s) A B) L i k := by
 obtain ⟨b, e, hb⟩ := h2
 exact ⟨b, (if_neg (by unfold isWd6; rw [h, hs]; simp)).trans e, hb⟩
theorem runs_if {c : Prop} [Decidable c] {p p' : Par β} (hc : c) (h : Runs Q p L i j) : Runs Q (if c then p else p') L i j := by rw [if_pos hc]; exact h
theorem runs_el {c : Prop} [Decidable c] {p p' : Par β} (hc : ¬ c) (h : Runs Q p' L i j) : Runs Q (if c then p else p') L i j := by rw [if_neg hc]; exact h
end
section
variable {fac : Par T1} {g d i j k : Nat} {L : List PT}
def NoSg (t : Tk) : Prop := tkT sPlu t = false ∧ tkT sMin t = false
def NoOp (n : Nat) (t : Tk) : Prop := ∀ k, n ≤ k → k ≤ 2 → opK k t = false
theorem sg_no {t : Tk} (h : (tk L i).1 = t) (hs : NoSg t) (n : Nat) : sgT n (tk L i) = false := by
 unfold sgT
 rw [tT_k h, tT_k h, hs.1, hs.2]; simp
theorem bins_stop {sub : Par T1} {x : T1} (h : opT k (tk L j) = false) : ∀ f, binsF sub k f x L j = .ok (x, j)
 | 0 => rfl
 | f + 1 => if_neg (by rw [h]; simp)
theorem lev_up (h : Rn (levF fac g d) L i j) (h1 : ∀ n, sgT n (tk L i) = false) (h2 : opT (2 - d) (tk L j) = false) : Rn (levF fac g (d + 1)) L i j := by
 obtain ⟨a, e, _⟩ := h
 refine ⟨a, ?_, trivial⟩
 show tokP (sgT (2 - d)) _ _ L i = _
 unfold tokP
 rw [if_neg (by rw [h1]; simp)]
 unfold bindP
 rw [e]
 exact bins_stop h2 _
theorem lev_n {t : Tk} (h : Rn fac L i j) (h1 : ∀ n, sgT n (tk L i) = false) (ht : (tk L j).1 = t) : ∀ d, d ≤ 3 → NoOp (3 - d) t → Rn (levF fac g d) L i j
 | 0, _, _ => h
 | d + 1, hd, hn => lev_up (lev_n h h1 ht d (by omega) fun k h2 h3 => hn k (by omega) h3) h1 (by rw [opT_at ht]; exact hn _ (by omega) (by omega))
theorem lev_3 {t : Tk} (ht : (tk L j).1 = t) (hn : NoOp 0 t) (h1 : ∀ n, sgT n (tk L i) = false) : ∀ n d, d + n = 3 → Rn (levF fac g d) L i j → Rn (levF fac g 3) L i j
 | 0, d, hd, h => by obtain rfl : d = 3 := by omega
                     exact h
 | n + 1, d, hd, h => lev_3 ht hn h1 n (d + 1) (by omega) (lev_up h h1 (by rw [opT_at ht]; exact hn _ (by omega) (by omega)))
theorem lev_bin {t : Tk} (ha : Rn (levF fac g d) L i j) (hop : opT (2 - d) (tk L j) = true) (hb : Rn (levF fac g d) L (j + 1) k) (h1 : ∀ n, sgT n (tk L i) = false) (ht : (tk L k).1 = t) (hn : NoOp 0 t) (hd : d ≤ 2) (hg : 0 < g) : Rn (levF fac g 3) L i k := by
 refine lev_3 ht hn h1 (2 - d) (d + 1) (by omega) ?_
 obtain ⟨g, rfl⟩ : ∃ g', g = g' + 1 := ⟨g - 1, by omega⟩
 obtain ⟨a, e, _⟩ := ha
 obtain ⟨b, e2, _⟩ := hb
 show Runs _ (tokP (sgT (2 - d)) _ _) L i k
 obtain ⟨c, ec⟩ : ∃ c, binsF (levF fac (g + 1) d) (2 - d) (g + 1) a L j = .ok (c, k) := by
  show ∃ c, tokP (opT (2 - d)) _ _ L j = .ok (c, k)
  unfold tokP
  rw [if_pos hop]
  unfold bindP
  dsimp only
  rw [e2]
  dsimp only
  split
  ·exact ⟨_, rfl⟩
  ·exact ⟨_, bins_stop (by rw [opT_at ht]; exact hn _ (by omega) (by omega)) _⟩
 refine ⟨c, ?_, trivial⟩
 unfold tokP
 rw [if_neg (by rw [h1]; simp)]
 unfold bindP
 rw [e]
 exact ec
theorem lev_sign {t : Tk} (hs : sgT 1 (tk L i) = true) (ha : Rn (levF fac g 1) L (i + 1) k) (h0 : sgT 0 (tk L i) = false) (ht : (tk L k).1 = t) (hn : NoOp 0 t) : Rn (levF fac g 3) L i k := by
 obtain ⟨a, e, _⟩ := ha
 have h2 : Rn (levF fac g 2) L i k := by
  refine ⟨mk 12 (tk L i).2.1 (tk L i).1.text 0 [a], ?_, trivial⟩
  show tokP (sgT 1) _ _ L i = _
  unfold tokP
  rw [if_pos hs]
  unfold bindP
  dsimp only
  rw [e]
  exact bins_stop (by rw [opT_at ht]; exact hn _ (by omega) (by omega)) _
 obtain ⟨b, e2, _⟩ := h2
 refine ⟨b, ?_, trivial⟩
 show tokP (sgT 0) _ _ L i = _
 unfold tokP
 rw [if_neg (by rw [h0]; simp)]
 unfold bindP
 rw [e2]
 exact bins_stop (by rw [opT_at ht]; exact hn _ (by omega) (by omega)) _
end
section
variable {g f i j k : Nat} {L : List PT} {t u : Tk}
abbrev exK (g f : Nat) : Par T1 := levF (factF g f) g 3
theorem fac_lit (h : (tk L i).1 = t) (hk : 2 ≤ t.kind ∧ t.kind ≤ 4) : Rn (factF g (f + 1)) L i (i + 1) :=
 ⟨_, (if_pos (by unfold litT; rw [h]; exact decide_eq_true hk)).trans rfl, trivial⟩
theorem fac_skip {Q : T1 → Prop} (h : (tk L i).1 = t) (hk : ¬ (2 ≤ t.kind ∧ t.kind ≤ 4)) (h2 : Runs Q (tokP (tT sPar) (fun _ => bindP (exK g f) (fun x => needF sRap (retP x)))
 (tokP (tT sNot) (fun t0 => bindP (factF g f) (fun x => retP (mk 12 t0.2.1 sNot 0 [x])))
 (tokP (tT sCur) (fun t0 => bindP (betweenF (elemF (exK g f)) g sRuc) (fun l => retP (mk 8 t0.2.1 sNil 0 (zeroT :: l))))
 (posP fun t0 => bindP (designF (exK g f) g) (tailF (exK g f) g t0))))) L i j) : Runs Q (factF g (f + 1)) L i j := by
 obtain ⟨a, e, ha⟩ := h2
 exact ⟨a, (if_neg (by unfold litT; rw [h]; simpa using hk)).trans e, ha⟩
theorem fac_par (h : (tk L i).1 = sy sPar) (h2 : Rn (exK g f) L (i + 1) j) (h3 : (tk L j).1 = sy sRap) : Rn (factF g (f + 1)) L i (j + 1) :=
 fac_skip h (by decide) (runs_y h rfl fun _ _ => rn_bind h2 fun _ => runs_need h3 rfl rn_ret)
theorem fac_not (h : (tk L i).1 = wd sNot) (h2 : Rn (factF g f) L (i + 1) j) : Rn (factF g (f + 1)) L i j :=
 fac_skip h (by decide) (runs_n h rfl (runs_y h rfl fun _ _ => rn_bind h2 fun _ => rn_ret))
theorem fac_des {P : T1 → Prop} (h : (tk L i).1 = t) (hk : t.kind = 1) (h2 : Runs P (designF (exK g f) g) L i j) (h3 : ∀ x u, P x → Rn (tailF (exK g f) g u x) L j k) : Rn (factF g (f + 1)) L i k :=
 have hn : ∀ s, tkT s t = false := fun s => by unfold tkT; rw [hk]; rfl
 fac_skip h (by omega) (runs_n h (hn _) (runs_n h (hn _) (runs_n h (hn _) (runs_pos h fun _ _ => runs_bind h2 fun a ha => h3 a _ ha))))
theorem tail_stop {e : Par T1} {x : T1} {u0 : PT} (h : (tk L j).1 = u) (h1 : tkT sCur u = false) (h2 : tkT sPar u = false) : Rn (tailF e g u0 x) L j j := by
 refine ⟨x, ?_, trivial⟩
 unfold tailF tokP
 rw [if_neg (show ¬ (plainT x && tT sCur (tk L j)) = true by rw [tT_k h, h1]; simp), if_neg (by rw [tT_k h, h2]; simp)]
 rfl
theorem des_stop' {e : Par T1} {x : T1} {Q : T1 → Prop} (h : (tk L j).1 = u) (h1 : tkT sDot u = false) (h2 : tkT sHat u = false) (h3 : tkT sBra u = false) (hx : Q x) : ∀ f, Runs Q (desF e g f x) L j j
 | 0 => runs_ret hx
 | f + 1 => runs_n h h1 (runs_n h h2 (runs_n h h3 (runs_ret hx)))
theorem dots_stop' {x : T1} {Q : T1 → Prop} (h : (tk L j).1 = u) (h1 : tkT sDot u = false) (hx : Q x) : ∀ f, Runs Q (dotsF f x) L j j
 | 0 => runs_ret hx
 | f + 1 => runs_n h h1 (runs_ret hx)
theorem qual_name {Q : T1 → Prop} (h : (tk L i).1 = t) (hk : t.kind = 1) (h1 : (tk L (i + 1)).1 = u) (hd : tkT sDot u = false) (hQ : ∀ p, Q (mk 1 p t.text 0 [])) : Runs Q (qualF g) L i (i + 1) := by
 unfold qualF
 refine runs_bind (P := fun a => a.1 = t) (j := i + 1) ⟨tk L i, by unfold nameP; rw [if_pos (by rw [h]; exact hk)], h⟩ fun a ha => ?_
 rw [ha]
 exact dots_stop' h1 hd (hQ _) g
theorem des_name {e : Par T1} {Q : T1 → Prop} (h : (tk L i).1 = t) (hk : t.kind = 1) (h1 : (tk L (i + 1)).1 = u) (hd : tkT sDot u = false) (hh : tkT sHat u = false) (hb : tkT sBra u = false) (hQ : ∀ p, Q (mk 1 p t.text 0 [])) : Runs Q (designF e g) L i (i + 1) :=
 runs_bind (P := Q) (qual_name h hk h1 hd hQ) fun a ha => des_stop' h1 hd hh hb ha g
theorem fac_name (h : (tk L i).1 = t) (hk : t.kind = 1) (h1 : (tk L (i + 1)).1 = u) (hu : StopF u) : Rn (factF g (f + 1)) L i (i + 1) :=
 fac_des (P := fun _ => True) h hk (des_name h hk h1 hu.dot hu.hat hu.bra fun _ => trivial) fun x v _ => tail_stop h1 hu.cur hu.par
end
def Fst (t : Tk) : Prop := t.kind = 1 ∨ t.kind = 2 ∨ t.kind = 4 ∨ t = sy sPar
theorem gr_first : ∀ e : Gr, ∃ t r, e.toks = t :: r ∧ Fst t
 | .z => ⟨_, _, rfl, .inl rfl⟩
 | .bin _ _ _ => ⟨_, _, rfl, .inr (.inr (.inr rfl))⟩
 | .un _ _ => ⟨_, _, rfl, .inr (.inr (.inr rfl))⟩
 | .num _ => ⟨_, _, rfl, .inr (.inl rfl)⟩
 | .idx _ => ⟨_, _, rfl, .inl rfl⟩
 | .call _ _ => ⟨_, _, rfl, .inl rfl⟩
 | .rng _ _ => ⟨_, _, rfl, .inl rfl⟩
 | .str => ⟨_, _, rfl, .inr (.inr (.inl rfl))⟩
theorem Fst.no {t : Tk} (h : Fst t) {s : ByteArray} (hs : s ≠ sPar) : tkT s t = false := by
 unfold tkT
 rcases h with h | h | h | rfl
 ·rw [h]; rfl
 ·rw [h]; rfl
 ·rw [h]; rfl
 ·rw [decide_eq_false (show ¬ (sy sPar).text = s from fun e => hs e.symm)]; simp
theorem at_first {L : List PT} {i : Nat} {e : Gr} (h : AtT L i e.toks) : ∃ t, (tk L i).1 = t ∧ Fst t := by
 obtain ⟨t, r, e1, h1⟩ := gr_first e
 rw [e1] at h
 exact ⟨t, h.1, h1⟩
theorem Fst.sg {L : List PT} {i : Nat} {t : Tk} (h : Fst t) (ht : (tk L i).1 = t) : ∀ n, sgT n (tk L i) = false := sg_no ht ⟨h.no (by decide), h.no (by decide)⟩
theorem noop_of {t : Tk} (h : StopE t) : NoOp 0 t := fun k _ _ => h.ops k
section
variable {g i j : Nat} {L : List PT}
theorem ex_of {f : Nat} {e : Gr} {t : Tk} (h : Rn (factF g f) L i j) (ha : AtT L i e.toks) (ht : (tk L j).1 = t) (hn : NoOp 0 t) : Rn (exK g f) L i j := by
 obtain ⟨u, hu, hf⟩ := at_first ha
 exact lev_n h (hf.sg hu) ht 3 nl (fun k _ h3 => hn k (Nat.zero_le _) h3)
theorem runs_gr (hg : 5 ≤ g) : ∀ (e : Gr) (f i : Nat), gdeep e ≤ f → e.fits → AtT L i e.toks → StopF (tk L (i + e.toks.length)).1 → Rn (factF g (f + 1)) L i (i + e.toks.length)
 | .z, f, i, _, _, h, hs => fac_name h.1 rfl rfl hs
 | .num n, f, i, _, _, h, hs => fac_lit h.1 (show 2 ≤ 2 ∧ 2 ≤ 4 by decide)
 | .str, f, i, _, _, h, hs => fac_lit h.1 (by decide)
 | .un op a, f, i, hd, hf, h, hs => by
   obtain ⟨f, rfl⟩ : ∃ f', f = f' + 2 := ⟨f - 2, by simp only [gdeep] at hd; omega⟩
   obtain ⟨h1, h2, h3⟩ := h
   obtain ⟨h3, h4, _⟩ := atT_app h3
   obtain ⟨ho, ha⟩ := hf
   have ra := runs_gr hg a (f + 1) _ (by simp only [gdeep] at hd; omega) ha h3 (by rw [h4]; exact stopE_rap.toStopF)
   have rn := runs_gr hg a f _ (by simp only [gdeep] at hd; omega) ha h3 (by rw [h4]; exact stopE_rap.toStopF)
   refine (fac_par (j := i + 1 + 1 + a.toks.length) h1 ?_ h4).to (by simp only [Gr.toks, List.length_cons, List.length_append, List.length_nil]; omega)
   obtain ⟨u, hu, hfu⟩ := at_first h3
   obtain rfl | rfl | rfl : op = 0 ∨ op = 1 ∨ op = 2 := by omega
   ·refine lev_sign (by unfold sgT; rw [tT_k h2, tT_k h2]; rfl) (lev_n ra (hfu.sg hu) h4 1 (by omega) fun k _ h => stopE_rap.ops k) (by unfold sgT; rfl) h4 (noop_of stopE_rap)
   ·refine lev_sign (by unfold sgT; rw [tT_k h2, tT_k h2]; rfl) (lev_n ra (hfu.sg hu) h4 1 (by omega) fun k _ h => stopE_rap.ops k) (by unfold sgT; rfl) h4 (noop_of stopE_rap)
   ·have h2 : (tk L (i + 1)).1 = wd sNot := by rw [h2]; rfl
    exact lev_n (fac_not (f := f + 1) h2 rn) (sg_no h2 ⟨by decide, by decide⟩) h4 3 nl fun k _ h => stopE_rap.ops k
 | .bin op a b, f, i, hd, hf, h, hs => by
   obtain ⟨f, rfl⟩ : ∃ f', f = f' + 1 := ⟨f - 1, by simp only [gdeep] at hd; omega⟩
   obtain ⟨h1, h3⟩ := h
   obtain ⟨h3, h4, h5⟩ := atT_app h3
   obtain ⟨h5, h6, _⟩ := atT_app h5
   obtain ⟨ho, ha, hb⟩ := hf
   have ra := runs_gr hg a f _ (by simp only [gdeep] at hd; omega) ha h3 (by rw [h4]; exact stopF_op ho)
   have rb := runs_gr hg b f _ (by simp only [gdeep] at hd; omega) hb h5 (by rw [h6]; exact stopE_rap.toStopF)
   refine (fac_par h1 ?_ h6).to (by simp only [Gr.toks, List.length_cons, List.length_append, List.length_nil]; omega)
   obtain ⟨u, hu, hfu⟩ := at_first h3
   obtain ⟨v, hv, hfv⟩ := at_first h5
   have hl : opLev op ≤ 2 := by unfold opLev; split; decide; split <;> decide
   have hop : ∀ k, k ≤ 2 → opK k (opTk op) = decide (opLev op = k) := fun k hk => opK_op ho k hk
   exact lev_bin (d := 2 - opLev op) (lev_n ra (hfu.sg hu) h4 _ (by omega) fun k h1 h2 => by rw [hop k h2]; exact decide_eq_false (by omega))
    (by rw [opT_at h4, hop _ (by omega)]; exact decide_eq_true (by omega)) (lev_n rb (hfv.sg hv) h6 _ (by omega) fun k _ _ => stopE_rap.ops k) (hfu.sg hu) h6 (noop_of stopE_rap) (by omega) (by omega)
 | .idx a, f, i, hd, hf, h, hs => by
   obtain ⟨f, rfl⟩ : ∃ f', f = f' + 1 := ⟨f - 1, by simp only [gdeep] at hd; omega⟩
   obtain ⟨h1, h2, h3⟩ := h
   obtain ⟨h3, h4, h5, h6, h7, _⟩ := atT_app h3
   have ra := runs_gr hg a f _ (by simp only [gdeep] at hd; omega) hf h3 (by rw [h4]; exact stopE_ket.toStopF)
   have hl : i + (Gr.idx a).toks.length = i + 1 + 1 + a.toks.length + 1 + 1 + 1 + 1 := by simp only [Gr.toks, List.length_cons, List.length_append, List.length_nil]; omega
   rw [hl] at hs ⊢
   have ex := ex_of (e := a) ra h3 h4 (noop_of stopE_ket)
   obtain ⟨g, rfl⟩ : ∃ g', g = g' + 4 := ⟨g - 4, by omega⟩
   refine fac_des (P := fun _ => True) h1 rfl (runs_bind (P := fun _ => True) (qual_name h1 rfl h2 rfl fun _ => trivial) fun x _ => ?_) fun x v _ => tail_stop rfl hs.cur hs.par
   refine runs_n h2 rfl (runs_n h2 rfl (runs_y h2 rfl fun _ _ => rn_bind ex fun _ => rn_bind (j := i + 1 + 1 + a.toks.length) (runs_n h4 rfl rn_ret) fun _ => runs_need h4 rfl ?_))
   refine runs_n h5 rfl (runs_y h5 rfl fun _ _ => runs_y h6 rfl fun _ _ => runs_bind (P := fun _ => True) ⟨tk L _, by unfold nameP; rw [if_pos (by rw [h7]; rfl)], trivial⟩ fun _ _ => ?_)
   exact des_stop' rfl hs.dot hs.hat hs.bra trivial _
 | .call a b, f, i, hd, hf, h, hs => by
   obtain ⟨f, rfl⟩ : ∃ f', f = f' + 1 := ⟨f - 1, by simp only [gdeep] at hd; omega⟩
   obtain ⟨h1, h2, h3⟩ := h
   obtain ⟨h3, h4, h5⟩ := atT_app h3
   obtain ⟨h5, h6, _⟩ := atT_app h5
   obtain ⟨ha, hb⟩ := hf
   have ra := ex_of (e := a) (runs_gr hg a f _ (by simp only [gdeep] at hd; omega) ha h3 (by rw [h4]; exact stopE_com.toStopF)) h3 h4 (noop_of stopE_com)
   have rb := ex_of (e := b) (runs_gr hg b f _ (by simp only [gdeep] at hd; omega) hb h5 (by rw [h6]; exact stopE_rap.toStopF)) h5 h6 (noop_of stopE_rap)
   obtain ⟨u, hu, hfu⟩ := at_first h3
   refine Rn.to (j := i + 1 + 1 + a.toks.length + 1 + b.toks.length + 1) ?_ (by simp only [Gr.toks, List.length_cons, List.length_append, List.length_nil]; omega)
   obtain ⟨g, rfl⟩ : ∃ g', g = g' + 4 := ⟨g - 4, by omega⟩
   refine fac_des (P := fun _ => True) h1 rfl (des_name h1 rfl h2 rfl rfl rfl fun _ => trivial) fun x v _ => ?_
   have hb : Rn (betweenF (exK (g + 4) (f + 1)) (g + 4) sRap) L (i + 1 + 1) (i + 1 + 1 + a.toks.length + 1 + b.toks.length + 1) :=
    runs_n hu (hfu.no (by decide)) (rn_bind (rn_bind ra fun _ => runs_y h4 rfl fun _ _ => rn_bind rb fun _ => runs_n h6 rfl rn_ret) fun _ => runs_need h6 rfl rn_ret)
   obtain ⟨l, e, _⟩ := hb
   refine ⟨mk 10 (tk L (i + 1)).2.1 sNil 0 (x :: l), ?_, trivial⟩
   unfold tailF tokP
   rw [if_neg (show ¬ (plainT x && tT sCur (tk L (i + 1))) = true by rw [tT_k h2, show tkT sCur (sy sPar) = false from by decide]; simp), if_pos (by rw [tT_k h2]; rfl)]
   unfold bindP
   dsimp only
   rw [e]
   rfl
 | .rng a b, f, i, hd, hf, h, hs => by
   obtain ⟨f, rfl⟩ : ∃ f', f = f' + 1 := ⟨f - 1, by simp only [gdeep] at hd; omega⟩
   obtain ⟨h1, h2, h3⟩ := h
   obtain ⟨h3, h4, h5⟩ := atT_app h3
   obtain ⟨h5, h6, _⟩ := atT_app h5
   obtain ⟨ha, hb⟩ := hf
   have ra := ex_of (e := a) (runs_gr hg a f _ (by simp only [gdeep] at hd; omega) ha h3 (by rw [h4]; exact stopE_ran.toStopF)) h3 h4 (noop_of stopE_ran)
   have rb := ex_of (e := b) (runs_gr hg b f _ (by simp only [gdeep] at hd; omega) hb h5 (by rw [h6]; exact stopE_ruc.toStopF)) h5 h6 (noop_of stopE_ruc)
   obtain ⟨u, hu, hfu⟩ := at_first h3
   refine Rn.to (j := i + 1 + 1 + a.toks.length + 1 + b.toks.length + 1) ?_ (by simp only [Gr.toks, List.length_cons, List.length_append, List.length_nil]; omega)
   obtain ⟨g, rfl⟩ : ∃ g', g = g' + 4 := ⟨g - 4, by omega⟩
   refine fac_des (P := fun x => plainT x = true) h1 rfl (des_name h1 rfl h2 rfl rfl rfl fun p => by simp [plainT, plainF, mk]) fun x v hx => ?_
   have he : Rn (elemF (exK (g + 4) (f + 1))) L (i + 1 + 1) (i + 1 + 1 + a.toks.length + 1 + b.toks.length) :=
    runs_pos hu fun _ _ => rn_bind ra fun _ => runs_y h4 rfl fun _ _ => rn_bind rb fun _ => rn_ret
   have hb : Rn (betweenF (elemF (exK (g + 4) (f + 1))) (g + 4) sRuc) L (i + 1 + 1) (i + 1 + 1 + a.toks.length + 1 + b.toks.length + 1) :=
    runs_n hu (hfu.no (by decide)) (rn_bind (rn_bind he fun _ => runs_n h6 rfl rn_ret) fun _ => runs_need h6 rfl rn_ret)
   obtain ⟨l, e, _⟩ := hb
   refine ⟨mk 8 v.2.1 sNil 0 (x :: l), ?_, trivial⟩
   unfold tailF tokP
   rw [if_pos (show (plainT x && tT sCur (tk L (i + 1))) = true by rw [tT_k h2, hx]; rfl)]
   unfold bindP
   dsimp only
   rw [e]
   rfl
theorem runs_ex (h5 : 5 ≤ g) {e : Gr} (hd : gdeep e + 1 ≤ g) (he : e.fits) (h : AtT L i e.toks) (hs : StopE (tk L (i + e.toks.length)).1) : Rn (exprF g) L i (i + e.toks.length) := by
 obtain ⟨n, rfl⟩ : ∃ n, g = n + 1 := ⟨g - 1, by omega⟩
 exact ex_of (e := e) (runs_gr h5 e n i (by omega) he h hs.toStopF) h rfl (noop_of hs)
theorem runs_exN (h5 : 5 ≤ g) {t u : Tk} (h : (tk L i).1 = t) (hk : t.kind = 1) (h1 : (tk L (i + 1)).1 = u) (hu : StopE u) : Rn (exprF g) L i (i + 1) := by
 obtain ⟨n, rfl⟩ : ∃ n, g = n + 1 := ⟨g - 1, by omega⟩
 exact lev_n (fac_name h hk h1 hu.toStopF) (sg_no h ⟨by unfold tkT; rw [hk]; rfl, by unfold tkT; rw [hk]; rfl⟩) h1 3 nl fun k _ _ => hu.ops k
theorem runs_exU (h5 : 5 ≤ g) {t u : Tk} (h : (tk L i).1 = t) (hk : t.kind = 2) (h1 : (tk L (i + 1)).1 = u) (hu : StopE u) : Rn (exprF g) L i (i + 1) := by
 obtain ⟨n, rfl⟩ : ∃ n, g = n + 1 := ⟨g - 1, by omega⟩
 exact lev_n (fac_lit h (by omega)) (sg_no h ⟨by unfold tkT; rw [hk]; rfl, by unfold tkT; rw [hk]; rfl⟩) h1 3 nl fun k _ _ => hu.ops k
theorem runs_exM (h5 : 5 ≤ g) {t u : Tk} (h0 : (tk L i).1 = sy sMin) (h : (tk L (i + 1)).1 = t) (hk : t.kind = 2) (h1 : (tk L (i + 1 + 1)).1 = u) (hu : StopE u) : Rn (exprF g) L i (i + 1 + 1) := by
 obtain ⟨n, rfl⟩ : ∃ n, g = n + 1 := ⟨g - 1, by omega⟩
 exact lev_sign (by unfold sgT; rw [tT_k h0, tT_k h0]; rfl) (lev_n (fac_lit h (by omega)) (sg_no h ⟨by unfold tkT; rw [hk]; rfl, by unfold tkT; rw [hk]; rfl⟩) h1 1 (by omega) fun k _ _ => hu.ops k) (by unfold sgT; rfl) h1 (noop_of hu)
end
end Rn
namespace Rn
open Tr (Nd Fo)
open Lx (Tk noTk)
open Ex
open St
section
variable {α : Type} {g f i j k : Nat} {L : List PT} {t : List Tk}
theorem Rn.eq {p q : Par α} (e : p L i = q L j) (h : Rn q L j k) : Rn p L i k := by obtain ⟨a, h, _⟩ := h; exact ⟨a, e.trans h, trivial⟩
def InB (g f : Nat) (L : List PT) (t : List Tk) : Prop := ∀ i, AtT L i t → StopS (tk L (i + t.length)).1 → tkT sSem (tk L (i + t.length)).1 = false → Rn (bodyF g f) L i (i + t.length)
def Items (g f : Nat) (L : List PT) (t : List Tk) : Prop := ∀ (n i : Nat) (acc : List T1), L.length < i + n → 0 < n → AtT L i t → StopS (tk L (i + t.length)).1 → ∃ n' acc', bodyR g (bodyF g f) n acc L i = tokP (tT sSem) (fun _ => bodyR g (bodyF g f) n' acc') (retP acc') L (i + t.length) ∧ L.length < i + t.length + 1 + n'
theorem inB_of (hg : L.length < g) (h : Items g f L t) : InB g (f + 1) L t := by
 intro i ha hs hn
 obtain ⟨n', acc', e, _⟩ := h g i [] (by omega) (by omega) ha hs
 show Runs (fun _ => True) (posP fun t0 => bindP (bodyR g (bodyF g f) g []) fun l => retP (mk 46 t0.2.1 sNil 0 l)) L i _
 refine runs_pos (t := (tk L i).1) rfl fun _ _ => rn_bind (j := i + t.length) ?_ fun _ => rn_ret
 exact Rn.eq e (runs_n rfl hn rn_ret)
theorem loopB_of (hg : L.length < g) (h : Items g f L t) : InB g (f + 1) L (t ++ [sy sSem, wd sExit]) := by
 intro i ha hs hn
 have hl : i + (t ++ [sy sSem, wd sExit]).length = i + t.length + 1 + 1 := by simp; omega
 rw [hl] at hs hn ⊢
 obtain ⟨ha, h1, h2, _⟩ := atT_app ha
 obtain ⟨n', acc', e, hlt⟩ := h g i [] (by omega) (by omega) ha (by rw [h1]; exact sS_sem)
 have hlt2 := tk_lt h1 (by decide)
 obtain ⟨n', rfl⟩ : ∃ m, n' = m + 1 := ⟨n' - 1, by omega⟩
 show Runs (fun _ => True) (posP fun t0 => bindP (bodyR g (bodyF g f) g []) fun l => retP (mk 46 t0.2.1 sNil 0 l)) L i _
 refine runs_pos (t := (tk L i).1) rfl fun _ _ => rn_bind (j := i + t.length + 1 + 1) ?_ fun _ => rn_ret
 refine Rn.eq e (runs_y h1 rfl fun _ _ => rn_bind (j := i + t.length + 1 + 1) ?_ fun _ => runs_n rfl hn rn_ret)
 exact Rn.eq (stm_w5 (by rw [h2]; rfl) (by rw [h2]; rfl)) (rn_bind rn_ret fun _ => rn_ret)
theorem items_nil : Items g f L [] := by
 intro n i acc hl hn _ hs
 obtain ⟨n, rfl⟩ : ∃ m, n = m + 1 := ⟨n - 1, by omega⟩
 refine ⟨n, acc ++ [], ?_, by simp; omega⟩
 show bindP (stmS g (bodyF g f)) _ L i = _
 unfold bindP
 rw [stm_stop (by simpa using hs)]
 rfl
theorem items_cons {t' : List Tk} (h' : Items g f L t') (h1 : ∀ i, AtT L i t → (tk L (i + t.length)).1 = sy sSem → Rn (stmS g (bodyF g f)) L i (i + t.length)) : Items g f L (t ++ sy sSem :: t') := by
 intro n i acc hl hn ha hs
 have hll : i + (t ++ sy sSem :: t').length = i + t.length + 1 + t'.length := by simp; omega
 rw [hll] at hs ⊢
 obtain ⟨ha, h2, ha'⟩ := atT_app ha
 obtain ⟨n, rfl⟩ : ∃ m, n = m + 1 := ⟨n - 1, by omega⟩
 obtain ⟨s, e, _⟩ := h1 i ha h2
 have hlt2 := tk_lt h2 (by decide)
 obtain ⟨n', acc', e2, hl2⟩ := h' n (i + t.length + 1) (acc ++ s) (by omega) (by omega) ha' hs
 refine ⟨n', acc', ?_, hl2⟩
 rw [← e2]
 show bindP (stmS g (bodyF g f)) _ L i = _
 unfold bindP
 rw [e]
 exact if_pos ((tT_k h2).trans rfl)
theorem items_one (h1 : ∀ i, AtT L i t → StopS (tk L (i + t.length)).1 → Rn (stmS g (bodyF g f)) L i (i + t.length)) : Items g f L t := by
 intro n i acc hl hn ha hs
 obtain ⟨n, rfl⟩ : ∃ m, n = m + 1 := ⟨n - 1, by omega⟩
 obtain ⟨s, e, _⟩ := h1 i ha hs
 refine ⟨n, acc ++ s, ?_, by omega⟩
 show bindP (stmS g (bodyF g f)) _ L i = _
 unfold bindP
 rw [e]
end
section
variable {g f i : Nat} {L : List PT} {e : Gr} {t : List Tk}
theorem elem_1 (h5 : 5 ≤ g) {n : Int} {u : Tk} (h : (tk L i).1 = nu n) (h1 : (tk L (i + 1)).1 = u) (hu : StopE u) (hr : tkT sRan u = false) : Rn (elemF (exprF g)) L i (i + 1) :=
 runs_pos h fun _ _ => rn_bind (runs_exU h5 h rfl h1 hu) fun _ => runs_n h1 hr rn_ret
theorem elem_2 (h5 : 5 ≤ g) {n m : Int} {u : Tk} (h : (tk L i).1 = nu n) (h1 : (tk L (i + 1)).1 = sy sRan) (h2 : (tk L (i + 1 + 1)).1 = nu m) (h3 : (tk L (i + 1 + 1 + 1)).1 = u) (hu : StopE u) : Rn (elemF (exprF g)) L i (i + 1 + 1 + 1) :=
 runs_pos h fun _ _ => rn_bind (runs_exU h5 h rfl h1 stopE_ran) fun _ => runs_y h1 rfl fun _ _ => rn_bind (runs_exU h5 h2 rfl h3 hu) fun _ => rn_ret
theorem arm_no {u : PT} {t : Tk} (h : u.1 = t) (h1 : tkT sBar t = false) (h2 : tkT sElse t = false) (h3 : tkT sEnd t = false) : ¬ armOut u = true := by
 have e : ∀ s, tT s u = tkT s t := fun s => by rw [← h]; rfl
 unfold armOut
 rw [e, e, e, h1, h2, h3]
 simp
theorem ret_no {u : PT} {t : Tk} (h : u.1 = t) (hf : Fst t) : ¬ retOut u = true := by
 have e : ∀ s, s ≠ sPar → tT s u = false := fun s hs => by have := hf.no hs; rw [← h] at this; exact this
 have hk : ¬ u.1.kind = 0 := by rw [h]; rcases hf with h | h | h | rfl <;> first | omega | decide
 unfold retOut
 rw [e sSem (by decide), e sBar (by decide), e sEnd (by decide), e sElse (by decide), e sElsif (by decide), e sUntil (by decide), decide_eq_false hk]
 simp
variable (hg : 11 ≤ g) (he : e.fits ∧ gdeep e ≤ 10) (hb : InB g f L t) (h0b : InB g f L [])
section
include hg he
theorem exE (h : AtT L i e.toks) {u : Tk} (h1 : (tk L (i + e.toks.length)).1 = u) (hu : StopE u) : Rn (exprF g) L i (i + e.toks.length) :=
 runs_ex (by omega) (by have := he.2; omega) he.1 h (by rw [h1]; exact hu)
theorem one_7 (h : AtT L i (oneT 7 e.toks t)) (hs : StopE (tk L (i + (oneT 7 e.toks t).length)).1) : Rn (stmS g (bodyF g f)) L i (i + (oneT 7 e.toks t).length) := by
 obtain ⟨h0, h1, h⟩ := h
 obtain ⟨h2, h3, h4, h5⟩ := atT_app h
 have hl : i + (oneT 7 e.toks t).length = i + 1 + 1 + e.toks.length + 1 + 1 + e.toks.length := by simp [oneT]; omega
 rw [hl] at hs ⊢
 refine Rn.eq (stm_name (by rw [h0]; rfl)) (rn_bind ?_ fun _ => rn_ret)
 have ex1 := exE hg he h2 h3 stopE_ket
 have ex2 := exE hg he h5 rfl hs
 obtain ⟨g, rfl⟩ : ∃ g', g = g' + 4 := ⟨g - 4, by omega⟩
 refine runs_pos h0 fun _ _ => rn_bind (j := i + 1 + 1 + e.toks.length + 1) (runs_bind (P := fun _ => True) (qual_name h0 rfl h1 rfl fun _ => trivial) fun x _ => ?_) fun _ => runs_pos h4 fun _ _ => runs_y h4 rfl fun _ _ => rn_bind ex2 fun _ => rn_ret
 exact runs_n h1 rfl (runs_n h1 rfl (runs_y h1 rfl fun _ _ => rn_bind ex1 fun _ => rn_bind (runs_n h3 rfl rn_ret) fun _ => runs_need h3 rfl (des_stop' h4 rfl rfl rfl trivial _)))
theorem one_8 (h : AtT L i (oneT 8 e.toks t)) : Rn (stmS g (bodyF g f)) L i (i + (oneT 8 e.toks t).length) := by
 obtain ⟨h0, h1, h⟩ := h
 obtain ⟨h2, h3, _⟩ := atT_app h
 obtain ⟨u, hu, hf⟩ := at_first h2
 have ex1 := exE hg he h2 h3 stopE_rap
 refine Rn.to (j := i + 1 + 1 + e.toks.length + 1) ?_ (by simp [oneT]; omega)
 refine Rn.eq (stm_name (by rw [h0]; rfl)) (rn_bind ?_ fun _ => rn_ret)
 obtain ⟨g, rfl⟩ : ∃ g', g = g' + 4 := ⟨g - 4, by omega⟩
 refine runs_pos h0 fun _ _ => rn_bind (j := i + 1) (des_name (Q := fun _ => True) h0 rfl h1 rfl rfl rfl fun _ => trivial) fun _ => runs_pos h1 fun _ _ => runs_n h1 rfl (runs_y h1 rfl fun _ _ => rn_bind (j := i + 1 + 1 + e.toks.length + 1) ?_ fun _ => rn_ret)
 exact runs_n hu (hf.no (by decide)) (rn_bind (rn_bind ex1 fun _ => runs_n h3 rfl rn_ret) fun _ => runs_need h3 rfl rn_ret)
theorem one_10 (h : AtT L i (wd sReturn :: e.toks)) (hs : StopE (tk L (i + (wd sReturn :: e.toks).length)).1) : Rn (stmS g (bodyF g f)) L i (i + (wd sReturn :: e.toks).length) := by
 obtain ⟨h0, h1⟩ := h
 have hl : i + (wd sReturn :: e.toks).length = i + 1 + e.toks.length := by simp; omega
 rw [hl] at hs ⊢
 obtain ⟨u, hu, hf⟩ := at_first h1
 refine Rn.eq (stm_w8 (by rw [h0]; rfl) (by rw [h0]; rfl)) (rn_bind ?_ fun _ => rn_ret)
 exact runs_pos hu fun v hv => runs_el (ret_no hv hf) (rn_bind (exE hg he h1 rfl hs) fun _ => rn_ret)
end
include hg he hb in
theorem one_1 (h : AtT L i (oneT 1 e.toks t)) : Rn (stmS g (bodyF g f)) L i (i + (oneT 1 e.toks t).length) := by
 obtain ⟨h0, h⟩ := h
 obtain ⟨h1, h2, h⟩ := atT_app h
 obtain ⟨h3, h4, _⟩ := atT_app h
 refine Rn.to (j := i + 1 + e.toks.length + 1 + t.length + 1) ?_ (by simp [oneT]; omega)
 refine Rn.eq (stm_w2 (by rw [h0]; rfl) (by rw [h0]; rfl)) (rn_bind ?_ fun _ => rn_ret)
 exact rn_bind (exE hg he h1 h2 eW_do) fun _ => runs_need h2 rfl (rn_bind (hb _ h3 (by rw [h4]; exact sS_end) (by rw [h4]; rfl)) fun _ => runs_need h4 rfl rn_ret)
include hg he hb in
theorem one_2 (h : AtT L i (oneT 2 e.toks t)) (hs : StopE (tk L (i + (oneT 2 e.toks t).length)).1) : Rn (stmS g (bodyF g f)) L i (i + (oneT 2 e.toks t).length) := by
 obtain ⟨h0, h⟩ := h
 obtain ⟨h1, h2, h3⟩ := atT_app h
 have hl : i + (oneT 2 e.toks t).length = i + 1 + t.length + 1 + e.toks.length := by simp [oneT]; omega
 rw [hl] at hs ⊢
 refine Rn.eq (stm_w3 (by rw [h0]; rfl) (by rw [h0]; rfl)) (rn_bind ?_ fun _ => rn_ret)
 exact rn_bind (hb _ h1 (by rw [h2]; exact sS_until) (by rw [h2]; rfl)) fun _ => runs_need h2 rfl (rn_bind (exE hg he h3 rfl hs) fun _ => rn_ret)
theorem one_3 (hb : InB g f L (t ++ [sy sSem, wd sExit])) (h : AtT L i (oneT 3 e.toks t)) : Rn (stmS g (bodyF g f)) L i (i + (oneT 3 e.toks t).length) := by
 obtain ⟨h0, h⟩ := h
 have h' : AtT L (i + 1) ((t ++ [sy sSem, wd sExit]) ++ [wd sEnd]) := by simpa using h
 obtain ⟨h1, h2, _⟩ := atT_app h'
 refine Rn.to (j := i + 1 + (t ++ [sy sSem, wd sExit]).length + 1) ?_ (by simp [oneT]; omega)
 refine Rn.eq (stm_w4 (by rw [h0]; rfl) (by rw [h0]; rfl)) (rn_bind ?_ fun _ => rn_ret)
 exact rn_bind (hb _ h1 (by rw [h2]; exact sS_end) (by rw [h2]; rfl)) fun _ => runs_need h2 rfl rn_ret
theorem one_9 (h : AtT L i [wd sExit]) : Rn (stmS g (bodyF g f)) L i (i + 1) :=
 Rn.eq (stm_w5 (by rw [h.1]; rfl) (by rw [h.1]; rfl)) (rn_bind rn_ret fun _ => rn_ret)
include hg he hb in
theorem one_4 (h : AtT L i (oneT 4 e.toks t)) : Rn (stmS g (bodyF g f)) L i (i + (oneT 4 e.toks t).length) := by
 obtain ⟨h0, h1, h2, h⟩ := h
 obtain ⟨h3, h4, h⟩ := atT_app h
 obtain ⟨h5, h6, h7, h8, h⟩ := atT_app h
 obtain ⟨h9, h10, _⟩ := atT_app h
 refine Rn.to (j := i + 1 + 1 + 1 + e.toks.length + 1 + e.toks.length + 1 + 1 + 1 + t.length + 1) ?_ (by simp [oneT]; omega)
 refine Rn.eq (stm_w6 (by rw [h0]; rfl) (by rw [h0]; rfl)) (rn_bind ?_ fun _ => rn_ret)
 exact runs_nm h1 rfl fun _ _ => runs_need h2 rfl (rn_bind (exE hg he h3 h4 eW_to) fun _ => runs_need h4 rfl (rn_bind (exE hg he h5 h6 eW_by) fun _ => runs_y h6 rfl fun _ _ => rn_bind (runs_exU (by omega) h7 rfl h8 eW_do) fun _ => runs_need h8 rfl (rn_bind (hb _ h9 (by rw [h10]; exact sS_end) (by rw [h10]; rfl)) fun _ => runs_need h10 rfl rn_ret)))
include hg hb in
theorem one_6 (h : AtT L i (oneT 6 e.toks t)) : Rn (stmS g (bodyF g f)) L i (i + (oneT 6 e.toks t).length) := by
 obtain ⟨h0, h1, h2, h3, h4, h5, h⟩ := h
 obtain ⟨h6, h7, _⟩ := atT_app h
 refine Rn.to (j := i + 1 + 1 + 1 + 1 + 1 + 1 + t.length + 1) ?_ (by simp [oneT]; omega)
 refine Rn.eq (stm_w7 (by rw [h0]; rfl) (by rw [h0]; rfl)) (rn_bind (j := i + 1 + 1 + 1 + 1 + 1 + 1 + t.length + 1) ?_ fun _ => rn_ret)
 refine rn_bind (j := i + 1 + 1 + 1 + 1 + 1) ?_ fun _ => runs_need h5 rfl (rn_bind (hb _ h6 (by rw [h7]; exact sS_end) (by rw [h7]; rfl)) fun _ => runs_need h7 rfl rn_ret)
 obtain ⟨g, rfl⟩ : ∃ g', g = g' + 4 := ⟨g - 4, by omega⟩
 refine runs_bind (P := fun _ => True) (j := i + 1 + 1 + 1 + 1) (runs_bind (P := fun _ => True) ⟨tk L _, by unfold nameP; rw [if_pos (by rw [h1]; rfl)], trivial⟩ fun _ _ => runs_y h2 rfl fun _ _ => runs_bind (P := fun _ => True) ⟨tk L _, by unfold nameP; rw [if_pos (by rw [h3]; rfl)], trivial⟩ fun _ _ => dots_stop' h4 rfl trivial _) fun _ _ => ?_
 exact runs_n h4 rfl (runs_y h4 rfl fun _ _ => des_stop' h5 rfl rfl rfl trivial _)
include hg he hb h0b in
theorem one_0 (h : AtT L i (oneT 0 e.toks t)) : Rn (stmS g (bodyF g f)) L i (i + (oneT 0 e.toks t).length) := by
 obtain ⟨h0, h⟩ := h
 obtain ⟨h1, h2, h⟩ := atT_app h
 obtain ⟨h3, h4, h5, h6, h7, h⟩ := atT_app h
 obtain ⟨h8, h9, _⟩ := atT_app h
 refine Rn.to (j := i + 1 + e.toks.length + 1 + t.length + 1 + 1 + 1 + 1 + t.length + 1) ?_ (by simp [oneT]; omega)
 refine Rn.eq (stm_w0 (by rw [h0]; rfl) (by rw [h0]; rfl)) (rn_bind ?_ fun _ => rn_ret)
 have ex1 := exE hg he h1 h2 eW_then
 have ex2 := runs_exN (g := g) (by omega) h5 rfl h6 eW_then
 have b2 := h0b (i + 1 + e.toks.length + 1 + t.length + 1 + 1 + 1) trivial (by rw [List.length_nil, Nat.add_zero, h7]; exact sS_else) (by rw [List.length_nil, Nat.add_zero, h7]; rfl)
 rw [List.length_nil, Nat.add_zero] at b2
 refine rn_bind (j := i + 1 + e.toks.length + 1 + t.length + 1 + 1 + 1) ?_ fun _ => runs_y h7 rfl fun _ _ => rn_bind (hb _ h8 (by rw [h9]; exact sS_end) (by rw [h9]; rfl)) fun _ => runs_need h9 rfl rn_ret
 obtain ⟨n, hn⟩ : ∃ n, g = n + 1 + 1 := ⟨g - 2, by omega⟩
 refine Rn.eq (congrArg (fun m => ifsF g (bodyF g f) m [] L (i + 1)) hn) (rn_bind ex1 fun _ => runs_need h2 rfl (rn_bind (hb _ h3 (by rw [h4]; exact sS_elsif) (by rw [h4]; rfl)) fun _ => runs_y h4 rfl fun _ _ => rn_bind ex2 fun _ => runs_need h6 rfl (rn_bind b2 fun _ => runs_n h7 rfl rn_ret)))
include hg he hb h0b in
theorem one_5 (h : AtT L i (oneT 5 e.toks t)) : Rn (stmS g (bodyF g f)) L i (i + (oneT 5 e.toks t).length) := by
 obtain ⟨h0, h⟩ := h
 obtain ⟨h1, h2, h3, h4, h5, h6, h7, h8, h⟩ := atT_app h
 obtain ⟨h9, h10, h11, h12, h13, h⟩ := atT_app h
 obtain ⟨h14, h15, _⟩ := atT_app h
 refine Rn.to (j := i + 1 + e.toks.length + 1 + 1 + 1 + 1 + 1 + 1 + 1 + t.length + 1 + 1 + 1 + 1 + t.length + 1) ?_ (by simp [oneT]; omega)
 refine Rn.eq (stm_w1 (by rw [h0]; rfl) (by rw [h0]; rfl)) (rn_bind ?_ fun _ => rn_ret)
 have ex1 := exE hg he h1 h2 eW_of
 have b2 := h0b (i + 1 + e.toks.length + 1 + 1 + 1 + 1 + 1 + 1 + 1 + t.length + 1 + 1 + 1) trivial (by rw [List.length_nil, Nat.add_zero, h13]; exact sS_else) (by rw [List.length_nil, Nat.add_zero, h13]; rfl)
 rw [List.length_nil, Nat.add_zero] at b2
 have e1 := elem_1 (g := g) (by omega) h3 h4 stopE_com rfl
 have e2 := elem_2 (g := g) (by omega) h5 h6 h7 h8 eS_col
 have e3 := elem_1 (g := g) (by omega) h11 h12 eS_col rfl
 obtain ⟨n, hn⟩ : ∃ n, g = n + 1 + 1 := ⟨g - 2, by omega⟩
 have l1 : Rn (labelsF g) L (i + 1 + e.toks.length + 1) (i + 1 + e.toks.length + 1 + 1 + 1 + 1 + 1 + 1) :=
  runs_pos h3 fun _ _ => rn_bind (rn_bind e1 fun x => Rn.eq (congrArg (fun m => manyRF (elemF (exprF g)) m [x] L _) hn) (runs_y h4 rfl fun _ _ => rn_bind e2 fun _ => runs_n h8 rfl rn_ret)) fun _ => rn_ret
 have l2 : Rn (labelsF g) L (i + 1 + e.toks.length + 1 + 1 + 1 + 1 + 1 + 1 + 1 + t.length + 1) (i + 1 + e.toks.length + 1 + 1 + 1 + 1 + 1 + 1 + 1 + t.length + 1 + 1) :=
  runs_pos h11 fun _ _ => rn_bind (rn_bind e3 fun x => Rn.eq (congrArg (fun m => manyRF (elemF (exprF g)) m [x] L _) hn) (runs_n h12 rfl rn_ret)) fun _ => rn_ret
 refine rn_bind ex1 fun x => runs_need h2 rfl (rn_bind (j := i + 1 + e.toks.length + 1 + 1 + 1 + 1 + 1 + 1 + 1 + t.length + 1 + 1 + 1) ?_ fun _ => runs_y h13 rfl fun _ _ => rn_bind (hb _ h14 (by rw [h15]; exact sS_end) (by rw [h15]; rfl)) fun _ => runs_need h15 rfl rn_ret)
 refine Rn.eq (congrArg (fun m => armsF g (bodyF g f) m [x] L _) hn) (runs_pos h3 fun u hu => runs_el (arm_no hu rfl rfl rfl) (rn_bind l1 fun _ => runs_need h8 rfl (rn_bind (hb _ h9 (by rw [h10]; exact sS_bar) (by rw [h10]; rfl)) fun _ => runs_y h10 rfl fun _ _ => ?_)))
 exact runs_pos h11 fun u hu => runs_el (arm_no hu rfl rfl rfl) (rn_bind l2 fun _ => runs_need h12 rfl (rn_bind b2 fun _ => runs_n h13 rfl rn_ret))
end
section
variable {g f i : Nat} {L : List PT} {e : Gr} {t : List Tk}
theorem one_runs (hg : 11 ≤ g) (hL : L.length < g) (k : Nat) (he : e.fits ∧ gdeep e ≤ 10) (hk : k ≤ 6 → ∃ f', f = f' + 1 ∧ Items g f' L t) (h : AtT L i (oneT k e.toks t)) (hs : StopE (tk L (i + (oneT k e.toks t).length)).1) : Rn (stmS g (bodyF g f)) L i (i + (oneT k e.toks t).length) := by
 have hb : k ≤ 6 → InB g f L t ∧ InB g f L [] ∧ InB g f L (t ++ [sy sSem, wd sExit]) := fun h => by
  obtain ⟨f', rfl, hI⟩ := hk h
  exact ⟨inB_of hL hI, inB_of hL items_nil, loopB_of hL hI⟩
 match k with
 | 0 => exact one_0 hg he (hb (by omega)).1 (hb (by omega)).2.1 h
 | 1 => exact one_1 hg he (hb (by omega)).1 h
 | 2 => exact one_2 hg he (hb (by omega)).1 h hs
 | 3 => exact one_3 (e := e) (hb (by omega)).2.2 h
 | 4 => exact one_4 hg he (hb (by omega)).1 h
 | 5 => exact one_5 hg he (hb (by omega)).1 (hb (by omega)).2.1 h
 | 6 => exact one_6 (e := e) hg (hb (by omega)).1 h
 | 7 => exact one_7 hg he h hs
 | 8 => exact one_8 hg he h
 | 9 => exact one_9 h
 | k + 10 => exact one_10 hg he h hs
theorem items_at (hg : 11 ≤ g) (hL : L.length < g) : ∀ (x : Bx) (f : Nat), x.deep ≤ f → x.fits → Items g f L x.toks
 | .nil, f, _, _ => items_nil
 | .emp r, f, hd, hf => by
   unfold Bx.toks
   split
   ·exact items_nil
   ·exact items_cons (t := []) (items_at hg hL r f hd hf) fun i _ h => ⟨[], by rw [stm_stop (by simpa [h] using (show StopS (tk L i).1 by rw [show (tk L i).1 = sy sSem from h]; exact sS_sem))]; rfl, trivial⟩
 | .st k e b r, f, hd, hf => by
   have hk : k ≤ 6 → ∃ f', f = f' + 1 ∧ Items g f' L b.toks := fun h => by
    have hd2 : max (b.deep + 1) r.deep ≤ f := by simpa [Bx.deep, h] using hd
    exact ⟨f - 1, by omega, items_at hg hL b (f - 1) (by omega) hf.2.1⟩
   have hr : r.deep ≤ f := by
    unfold Bx.deep at hd
    split at hd <;> omega
   unfold Bx.toks
   split
   ·rw [List.append_nil]
    exact items_one fun i ha hs => one_runs hg hL k hf.1 hk ha hs.toStopE
   ·exact items_cons (items_at hg hL r f hr hf.2.2) fun i ha h => one_runs hg hL k hf.1 hk ha (by rw [h]; exact eS_sem)
theorem runs_body (hg : 11 ≤ g) (hL : L.length < g) {x : Bx} (hf : x.fits) (ha : AtT L i x.toks) {u : Tk} (hu : (tk L (i + x.toks.length)).1 = u) (hs : StopS u) (hn : tkT sSem u = false) (hd : x.deep ≤ g) : Rn (bodyF g (g + 1)) L i (i + x.toks.length) :=
 inB_of hL (items_at hg hL x g hd hf) i ha (by rw [hu]; exact hs) (by rw [hu]; exact hn)
end
end Rn
end Go.Proofs.YtkemhmfdooghkaaGreatDoor
