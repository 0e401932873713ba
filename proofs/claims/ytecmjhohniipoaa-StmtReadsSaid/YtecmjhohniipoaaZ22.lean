/- A part of the proof: G22, U1. -/
import Derived.Test.YtecmjhohniipoaaZ1
import Derived.Test.YtecmjhohniipoaaZ20
import Derived.Test.YtecmjhohniipoaaZ21
import Derived.Test.YtecmjhohniipoaaZ18
import Derived.Test.YtecmjhohniipoaaZ16
import Derived.Test.YtecmjhohniipoaaZ14
set_option linter.unusedSimpArgs false
set_option linter.unusedVariables false

section
namespace Go.Proofs.Ytecmjhohniipoaa.Ex
open Go.RowKit
open Tr (Nd Fo RepS RepN Rep cellsN)
open Lx (Tk noTk Blk run_store_complexL TokAt)
open Fl
attribute [local go_sem] run_store_complexL run_field1 run_field3
theorem fact_eq {L : List PT} {g : Nat} (hg : L.length < g) : ∀ (f i : Nat), factP L f i = factF g f L i
 | 0, i => rfl
 | f + 1, i => by
   obtain ⟨f1, f2⟩ := fact_gs g f
   have ih : ∀ j, i + 1 ≤ j → factP L f j = factF g f L j := fun j _ => fact_eq hg f j
   have el : ∀ j, i + 1 ≤ j → exprG L (factP L f) j = levF (factF g f) g 3 L j := fun j hj => lev_fuel f1 f2 ih hg 3 j hj
   have e1 := good_levF g f1 3
   have e2 := strict_levF g f1 f2 3
   have em : ∀ j, i + 1 ≤ j → elemP L (exprG L (factP L f)) j = elemF (levF (factF g f) g 3) L j := fun j hj => elem_fuel e2 el hj
   have em2 := strict_elemF e1 e2
   unfold factP factF tokP
   rw [isT_tT L i sPar, isT_tT L i sNot, isT_tT L i sCur]
   by_cases hk : 2 ≤ (tk L i).1.kind ∧ (tk L i).1.kind ≤ 4
   ·rw [if_pos hk, if_pos (show litT (tk L i) = true from by simp [litT, hk])]; rfl
   rw [if_neg hk, if_neg (show ¬ litT (tk L i) = true from by simpa [litT] using hk)]
   by_cases h1 : tT sPar (tk L i) = true
   ·rw [if_pos h1, if_pos h1]
    unfold bindP
    try dsimp only
    rw [el (i + 1) (by omega)]
    cases e3 : levF (factF g f) g 3 L (i + 1) with
    | error k => rfl
    | ok r =>
      obtain ⟨x, j⟩ := r
      dsimp only
      rw [← need_eq]
      rfl
   rw [if_neg h1, if_neg h1]
   by_cases h2 : tT sNot (tk L i) = true
   ·rw [if_pos h2, if_pos h2]
    unfold bindP
    try dsimp only
    rw [ih (i + 1) (by omega)]
    all_goals (cases factF g f L (i + 1) <;> rfl)
   rw [if_neg h2, if_neg h2]
   by_cases h3 : tT sCur (tk L i) = true
   ·rw [if_pos h3, if_pos h3]
    unfold bindP
    try dsimp only
    rw [between_fuel em2 em hg _ (by omega)]
    all_goals (cases betweenF (elemF (levF (factF g f) g 3)) g sRuc L (i + 1) <;> rfl)
   rw [if_neg h3, if_neg h3]
   unfold posP bindP
   rw [design_fuel e1 e2 el hg]
   dsimp only
   cases e3 : designF (levF (factF g f) g 3) g L i with
   | error k => rfl
   | ok r =>
     obtain ⟨x, j⟩ := r
     have := strict_designF e1 g L i x j e3
     dsimp only
     unfold tailF tokP
     rw [isT_tT L j sCur, isT_tT L j sPar]
     by_cases h4 : plainT x = true ∧ tT sCur (tk L j) = true
     ·rw [if_pos h4, if_pos (show (plainT x && tT sCur (tk L j)) = true from by simp [h4])]
      unfold bindP
      try dsimp only
      rw [between_fuel em2 em hg _ (by omega)]
      all_goals (cases betweenF (elemF (levF (factF g f) g 3)) g sRuc L (j + 1) <;> rfl)
     rw [if_neg h4, if_neg (show ¬ (plainT x && tT sCur (tk L j)) = true from by simpa using h4)]
     by_cases h5 : tT sPar (tk L j) = true
     ·rw [if_pos h5, if_pos h5]
      unfold bindP
      try dsimp only
      rw [between_fuel e2 el hg _ (by omega)]
      all_goals (cases betweenF (levF (factF g f) g 3) g sRap L (j + 1) <;> rfl)
     rw [if_neg h5, if_neg h5]
     rfl
theorem rn_down {F : Nat} {sp : Nat → Except Nat (T1 × Nat)} {w0 : World} {br c : Nat} {A : Option Addr} {L : List PT} {lo : Nat}
 (h : ∀ i, lo ≤ i → i ≤ 60000 → RnOK F sp (i + 1) w0 br A c L → ∀ w, QInv w0 w br A c L i false → Calls Try.prog F #[.pointer (some ⟨br, 0, none⟩)] w (RefR w.heap.size w0 w br A c L (sp i))) : ∀ n i, lo ≤ i → 60001 ≤ i + n → RnOK F sp i w0 br A c L := by
 intro n
 induction n with
 | zero => intro i hlo hi j hj hj2; omega
 | succ n ih =>
   intro i hlo hi j hj hj2 w hw
   have h1 := ih (i + 1) (by omega) (by omega)
   rcases Nat.eq_or_lt_of_le hj with e | e
   ·subst e; exact h i hlo hj2 h1 w hw
   ·exact h1 j e hj2 w hw
section
variable {w0 : World} {br c : Nat} {A : Option Addr} {L : List PT} (ht : Toks w0 br A L) (ok : OKRow L)
include ht ok
theorem rexpr_of {f lo : Nat} (hF : RnOK 97 (factP L f) lo w0 br A c L) : RnOK 63 (exprG L (factP L f)) lo w0 br A c L := by
 have fs := fact_gs (L.length + 1) f
 have h0 : ∀ j, factP L f j = factF (L.length + 1) f L j := fun j => fact_eq (Nat.lt_succ_self _) f j
 have hl : ∀ d j, levD L (factP L f) d j = levF (factF (L.length + 1) f) (L.length + 1) d L j := fun d j => lev_fuel (lo := 0) fs.1 fs.2 (fun j _ => h0 j) (Nat.lt_succ_self _) d j (Nat.zero_le _)
 have h1 := rterm_any fs.1 fs.2 ht ok h0 hF (factP_ok f)
 have h2 := rsimple_any (good_levF _ fs.1 1) (strict_levF _ fs.1 fs.2 1) ht ok (hl 1) h1 (levD_ok (factP_ok f) 1)
 exact rexpr_any (good_levF _ fs.1 2) ht ok (hl 2) h2 (levD_ok (factP_ok f) 2)
theorem rfac_lits (i : Nat) (hi : i ≤ 60000) (w : World) (h : QInv w0 w br A c L i false) (hk : 2 ≤ (tk L i).1.kind ∧ (tk L i).1.kind ≤ 4) :
 Calls Try.prog 97 #[.pointer (some ⟨br, 0, none⟩)] w (RefR w.heap.size w0 w br A c L (.ok (mk ((tk L i).1.kind + 3) (pos L i) (tk L i).1.text (tk L i).1.n [], i + 1))) := by
 have h3 : (tk L i).1.kind = 2 ∨ (tk L i).1.kind = 3 ∨ (tk L i).1.kind = 4 := by omega
 rcases h3 with e | e | e
 ·rw [e, (ok i).num (.inl e)]
  exact rfac_2 ht ok i hi w h e
 ·rw [e, (ok i).num (.inr e)]
  exact rfac_3 ht ok i hi w h e
 ·rw [e, (ok i).str e]
  exact rfac_4 ht ok i hi w h e
theorem rfac_last {f : Nat} (i : Nat) (hF : RnOK 97 (factP L f) (i + 1) w0 br A c L) (hi : i ≤ 60000) (w : World) (h : QInv w0 w br A c L i false) (hk : ¬ (2 ≤ (tk L i).1.kind ∧ (tk L i).1.kind ≤ 4)) (hP : isT L i sPar = false) (hN : isT L i sNot = false) (hC : isT L i sCur = false) :
 Calls Try.prog 97 #[.pointer (some ⟨br, 0, none⟩)] w (RefR w.heap.size w0 w br A c L (factP L (f + 1) i)) := by
 have hg : L.length < L.length + 1 := Nat.lt_succ_self _
 have fs := fact_gs (L.length + 1) f
 have e1 := good_levF (L.length + 1) fs.1 3
 have e2 := strict_levF (L.length + 1) fs.1 fs.2 3
 have hx : ∀ j, exprG L (factP L f) j = levF (factF (L.length + 1) f) (L.length + 1) 3 L j := fun j => lev_fuel (lo := 0) fs.1 fs.2 (fun j _ => fact_eq hg f j) hg 3 j (Nat.zero_le _)
 have hE := rexpr_of ht ok hF
 have hm : SpOK L (exprG L (factP L f)) := levD_ok (factP_ok f) 3
 have hD := rdesign_any e1 e2 (lo := i) ht ok hx hE hm
 have hL := relem_any e1 ht ok hx hE hm
 have hme := err_bd (good_elemF e1 e2) (fun j => elem_fuel (lo := 0) e2 (fun j _ => hx j) (Nat.zero_le j)) ht.len
 have hde := err_bd (good_designF e1 (L.length + 1)) (fun j => design_fuel e1 e2 (fun j _ => hx j) hg) ht.len
 have := rfac_des e1 (lo := i) ht ok hx hE hm hD (designP_ok hm) (fun i x j h => designP_dot h) hL (elemP_ok hm) hme hde i (Nat.le_refl _) hi w h hk hC hP hN
 rw [factP_succ, if_neg hk, if_neg (by rw [hP]; simp), if_neg (by rw [hN]; simp), if_neg (by rw [hC]; simp)]
 exact this
theorem rfac_any : ∀ (f lo : Nat), L.length < lo + f → RnOK 97 (factP L f) lo w0 br A c L := by
 intro f
 induction f with
 | zero =>
   intro lo hlo
   refine rn_down (lo := lo) (fun i hi hi2 hF w hw => ?_) 60001 lo (Nat.le_refl _) (by omega)
   have he : L.length ≤ i := by omega
   have := rfac_last ht ok i hF hi2 w hw (by rw [kind_end he]; omega) (isT_end he) (isT_end he) (isT_end he)
   rw [factP_end he] at this
   exact this
 | succ f ih =>
   intro lo hlo i hi hi2 w hw
   have hF := ih (i + 1) (by omega)
   by_cases hk : 2 ≤ (tk L i).1.kind ∧ (tk L i).1.kind ≤ 4
   ·rw [factP_succ, if_pos hk]
    exact rfac_lits ht ok i hi2 w hw hk
   ·have hg : L.length < L.length + 1 := Nat.lt_succ_self _
    have fs := fact_gs (L.length + 1) f
    have e1 := good_levF (L.length + 1) fs.1 3
    have e2 := strict_levF (L.length + 1) fs.1 fs.2 3
    have hx : ∀ j, exprG L (factP L f) j = levF (factF (L.length + 1) f) (L.length + 1) 3 L j := fun j => lev_fuel (lo := 0) fs.1 fs.2 (fun j _ => fact_eq hg f j) hg 3 j (Nat.zero_le _)
    have hE := rexpr_of ht ok hF
    have hm : SpOK L (exprG L (factP L f)) := levD_ok (factP_ok f) 3
    cases hC : isT L i sCur
    ·cases hP : isT L i sPar
     ·cases hN : isT L i sNot
      ·exact rfac_last ht ok i hF hi2 w hw hk hP hN hC
      ·rw [factP_succ, if_neg hk, if_neg (by rw [hP]; simp), if_pos hN]
       exact rfac_not ht ok hF i (Nat.le_refl _) hi2 w hw hk hC hP hN
     ·rw [factP_succ, if_neg hk, if_pos hP]
      exact rfac_par e1 ht ok hx hE hm i (Nat.le_refl _) hi2 w hw hk hC hP
    ·rw [factP_succ, if_neg hk, if_neg (by rw [isT_other (s' := sPar) hC (by decide)]; simp), if_neg (by rw [isT_other (s' := sNot) hC (by decide)]; simp), if_pos hC]
     have hL := relem_any e1 ht ok hx hE hm
     have hme := err_bd (good_elemF e1 e2) (fun j => elem_fuel (lo := 0) e2 (fun j _ => hx j) (Nat.zero_le j)) ht.len
     exact rfac_set ht ok hL (elemP_ok hm) hme i (Nat.le_refl _) hi2 w hw hk hC
theorem rexpr_all : RnOK 63 (exprP L) 0 w0 br A c L := rexpr_of ht ok (rfac_any ht ok (L.length + 1) 0 (by omega))
theorem rdesign_all : RnOK 66 (designP L (exprP L)) 0 w0 br A c L :=
 rdesign_any (good_exprF (L.length + 1)) (strict_exprF (L.length + 1)) ht ok (fun j => expr_fuel (Nat.lt_succ_self _) j) (fun j _ => rexpr_all ht ok j (Nat.zero_le _)) exprP_ok
theorem rlabels_all : RnOK 79 (labelsP L) 0 w0 br A c L := fun i hlo hi w h => by
 have hx : ∀ j, exprP L j = exprF (L.length + 1) L j := fun j => expr_fuel (Nat.lt_succ_self _) j
 have hL := relem_any (good_exprF (L.length + 1)) ht ok hx (rexpr_all (c := c) ht ok) exprP_ok
 have hme := err_bd (good_elemF (good_exprF (L.length + 1)) (strict_exprF (L.length + 1))) (fun j => elem_fuel (lo := 0) (strict_exprF (L.length + 1)) (fun j _ => hx j) (Nat.zero_le j)) ht.len
 have := rlabels_any ht ok hL (elemP_ok exprP_ok) hme i hlo hi w h
 unfold labelsP
 exact this
end
end Go.Proofs.Ytecmjhohniipoaa.Ex
namespace Go.Proofs.Ytecmjhohniipoaa.Ex
open Go.RowKit
open Tr (Nd Fo)
open Lx (bt Tk noTk isL isD isP isX oneN numN symN item scanL scanF at_ at_is)
open Fl Pl
structure TkS (n : Nat) (t : Tk) : Prop where
 ok : OKTk t
 size : t.text.size ≤ n
theorem tks_no (n : Nat) : TkS n noTk := ⟨⟨fun h => absurd h (by decide), fun h => absurd h (by decide), fun h => rfl, fun h => absurd h (by decide)⟩, Nat.zero_le _⟩
theorem num_tk {s : List UInt8} {t : Tk} (h : numN s = some t) : (t.kind = 2 ∨ t.kind = 3) ∧ t.text = sNil := by
 have hm : ∀ (k : Nat) (o : Option Nat), k = 2 ∨ k = 3 → o.map (Lx.mkNum k) = some t → (t.kind = 2 ∨ t.kind = 3) ∧ t.text = sNil := by
  intro k o hk e
  cases o with
  | none => cases e
  | some v =>
    simp only [Option.map_some, Option.some.injEq] at e
    subst e
    exact ⟨hk, rfl⟩
 unfold numN Lx.numX at h
 split at h
 ·exact hm 2 _ (.inl rfl) h
 ·split at h
  ·exact hm 2 _ (.inl rfl) h
  ·split at h
   ·exact hm 2 _ (.inl rfl) h
   ·split at h
    ·exact hm 3 _ (.inr rfl) h
    ·cases h
theorem head_take {s : List UInt8} {n : Nat} (h : 1 ≤ n) : (s.take n).head? = s.head? := by
 cases n with
 | zero => omega
 | succ n => cases s <;> rfl
theorem bt_size (l : List UInt8) : (bt l).size = l.length := by simp [bt, ByteArray.size]
theorem one_tk {s : List UInt8} (hs : s ≠ []) {t : Tk} {n : Nat} (h : oneN s = .ok (t, n)) : TkS (s.length + 3) t := by
 have hb := Lx.oneN_bd s hs t n h
 unfold oneN at h
 dsimp only at h
 split at h
 ·rename_i hc
  have h1 := Lx.runN_pos (p := isP) (s := s) (by unfold isP; rw [hc]; rfl) hs
  split at h
  ·cases h
  ·injection h with h
   injection h with h3 h4
   subst h3
   refine ⟨⟨fun _ => ?_, fun e => ?_, fun e => ?_, fun e => rfl⟩, ?_⟩
   ·show isL ((bt (s.take (Lx.runN isP s))).data.toList.head?.getD 0) = true
    rw [show (bt (s.take (Lx.runN isP s))).data.toList = s.take (Lx.runN isP s) by simp [bt], head_take h1]
    exact hc
   ·dsimp only at e; split at e <;> cases e
   ·dsimp only at e; split at e <;> omega
   ·show (bt _).size ≤ _
    rw [bt_size, List.length_take]; omega
 ·rename_i hc
  split at h
  ·split at h
   ·cases h
   ·rename_i t' hn
    injection h with h
    injection h with h3 h4
    subst h3
    obtain ⟨h5, h6⟩ := num_tk hn
    refine ⟨⟨fun e => by omega, fun e => by omega, fun _ => h6, fun e => by omega⟩, by rw [h6]; exact Nat.zero_le _⟩
  ·split at h
   ·split at h
    ·cases h
    ·injection h with h
     injection h with h3 h4
     subst h3
     refine ⟨⟨fun e => (by cases e), fun e => (by cases e), fun e => (by rcases e with e | e <;> cases e), fun e => rfl⟩, ?_⟩
     show (bt _).size ≤ _
     rw [bt_size, List.length_drop, List.length_take]; omega
   ·split at h
    ·cases h
    ·rename_i h0
     injection h with h
     injection h with h3 h4
     subst h3
     unfold Lx.plainT
     split
     ·exact ⟨⟨fun e => (by cases e), fun e => rfl, fun e => (by rcases e with e | e <;> cases e), fun e => rfl⟩, by show 1 ≤ _; omega⟩
     ·split
      ·exact ⟨⟨fun e => rfl, fun e => (by cases e), fun e => (by rcases e with e | e <;> cases e), fun e => rfl⟩, by show 3 ≤ _; omega⟩
      ·split
       ·exact ⟨⟨fun e => rfl, fun e => (by cases e), fun e => (by rcases e with e | e <;> cases e), fun e => rfl⟩, by show 3 ≤ _; omega⟩
       ·refine ⟨⟨fun e => (by cases e), fun _ => ?_, fun e => (by rcases e with e | e <;> cases e), fun e => rfl⟩, ?_⟩
        ·show isL ((bt (s.take (symN s))).data.toList.head?.getD 0) = false
         rw [show (bt (s.take (symN s))).data.toList = s.take (symN s) by simp [bt], head_take (by omega)]
         simpa using hc
        ·show (bt _).size ≤ _
         rw [bt_size, List.length_take]; omega
theorem scan_tk : ∀ (f i : Nat) (s : List UInt8) (m : Nat) (l : List Lx.Tok), s.length ≤ m → scanF f i s = .ok l → ∀ x ∈ l, TkS (m + 3) x.1 := by
 intro f
 induction f with
 | zero => intro i s m l hm h; cases h
 | succ f ih =>
   intro i s m l hm h
   unfold scanF at h
   split at h
   ·cases h
    intro x hx
    simp only [List.mem_singleton] at hx
    subst hx
    exact tks_no _
   ·rename_i hne
    have hd : ∀ n, (s.drop n).length ≤ m := fun n => by rw [List.length_drop]; omega
    split at h
    ·cases h
    ·exact ih _ _ _ _ (hd _) h
    ·rename_i t n hi
     cases he : scanF f (i + n) (s.drop n) with
     | error k => rw [he] at h; cases h
     | ok l' =>
       rw [he] at h
       cases h
       intro x hx
       rcases List.mem_cons.1 hx with e | e
       ·subst e
        show TkS (m + 3) t
        unfold item at hi
        split at hi
        ·cases hi
        ·split at hi
         ·split at hi <;> cases hi
         ·split at hi
          ·cases hi
          ·rename_i t' n' ho
           injection hi with h1 h2
           subst h1
           have := one_tk hne ho
           exact ⟨this.ok, Nat.le_trans this.size (by omega)⟩
       ·exact ih _ _ _ _ (hd _) he x e
structure TF (t : PT) : Prop where
 ok : OKTk t.1
 p1 : t.2.1.1 < 4294967296
 p2 : t.2.1.2 < 4294967296
 size : t.1.text.size ≤ 9223372036854775807
theorem tf_no : TF noPT := ⟨(tks_no 0).ok, by decide, by decide, by decide⟩
def FitRow (L : List PT) : Prop := ∀ i, TF (tk L i)
theorem row_fit (s : List UInt8) : FitRow (rowP s) := by
 intro i
 unfold tk
 cases h : (rowP s)[i]? with
 | none => exact tf_no
 | some t =>
   have hm := List.mem_of_getElem? h
   show TF t
   unfold rowP at hm
   cases hl : scanL s with
   | error e => rw [hl] at hm; cases hm
   | ok l =>
     rw [hl] at hm
     obtain ⟨x, hx, rfl⟩ := List.mem_map.1 hm
     unfold scanL at hl
     split at hl
     ·cases hl
     ·rename_i hlen
      have h1 := scan_tk _ _ _ _ _ (Nat.le_refl _) hl x (List.dropLast_subset _ hx)
      have h2 := at_is s (by omega) x.2.1
      exact ⟨h1.ok, by show (at_ s x.2.1).1 < _; omega, by show (at_ s x.2.1).2 < _; omega, by show x.1.text.size ≤ _; have := h1.size; omega⟩
def fitT (x : T1) : Prop := (Fo.node x.1 x.2 .no).fits
def fitL (l : List T1) : Prop := (forest l).fits
theorem fit_mk {kind : Nat} {t : PT} {name : ByteArray} {n : Int} {l : List T1} (hk : kind < 256) (h : TF t) (hn : name.size ≤ 9223372036854775807) (hl : fitL l) : fitT (mk kind t.2.1 name n l) := ⟨hk, h.p1, h.p2, hn, hl, trivial⟩
theorem fitL_nil : fitL [] := trivial
theorem fitL_cons {x : T1} {l : List T1} (h : fitT x) (hl : fitL l) : fitL (x :: l) := ⟨h.1, h.2.1, h.2.2.1, h.2.2.2.1, h.2.2.2.2.1, hl⟩
theorem fitL_snoc {y : T1} (hy : fitT y) : ∀ {l : List T1}, fitL l → fitL (l ++ [y])
 | [], _ => fitL_cons hy fitL_nil
 | x :: l, h => by
   have h' : fitT x ∧ fitL l := ⟨⟨h.1, h.2.1, h.2.2.1, h.2.2.2.1, h.2.2.2.2.1, trivial⟩, h.2.2.2.2.2⟩
   exact fitL_cons h'.1 (fitL_snoc hy h'.2)
theorem fit_0 {kind : Nat} {t : PT} {name : ByteArray} {n : Int} (hk : kind < 256) (h : TF t) (hn : name.size ≤ 9223372036854775807) : fitT (mk kind t.2.1 name n []) := fit_mk hk h hn fitL_nil
theorem fit_1 {kind : Nat} {t : PT} {name : ByteArray} {n : Int} {x : T1} (hk : kind < 256) (h : TF t) (hn : name.size ≤ 9223372036854775807) (hx : fitT x) : fitT (mk kind t.2.1 name n [x]) := fit_mk hk h hn (fitL_cons hx fitL_nil)
theorem fit_2 {kind : Nat} {t : PT} {name : ByteArray} {n : Int} {x y : T1} (hk : kind < 256) (h : TF t) (hn : name.size ≤ 9223372036854775807) (hx : fitT x) (hy : fitT y) : fitT (mk kind t.2.1 name n [x, y]) := fit_mk hk h hn (fitL_cons hx (fitL_cons hy fitL_nil))
theorem nil_small : sNil.size ≤ 9223372036854775807 := by decide
def Ft {α : Type} (c : α → Prop) (p : Par α) : Prop := ∀ L i a j, FitRow L → p L i = .ok (a, j) → c a
section
variable {α β : Type} {c : α → Prop} {c' : β → Prop}
theorem ft_ret {a : α} (h : c a) : Ft c (retP a) := fun L i b j hL e => by cases e; exact h
theorem ft_fail : Ft c (failP (α := α)) := fun L i b j hL e => by cases e
theorem ft_bind {p : Par α} {q : α → Par β} (hp : Ft c p) (hq : ∀ a, c a → Ft c' (q a)) : Ft c' (bindP p q) := by
 intro L i b j hL e
 unfold bindP at e
 cases e1 : p L i with
 | error x => rw [e1] at e; cases e
 | ok r =>
   obtain ⟨a, j1⟩ := r
   rw [e1] at e
   exact hq a (hp L i a j1 hL e1) L j1 b j hL e
theorem ft_tok {t : PT → Bool} {A : PT → Par α} {B : Par α} (hA : ∀ x, TF x → t x = true → Ft c (A x)) (hB : Ft c B) : Ft c (tokP t A B) := by
 intro L i a j hL e
 unfold tokP at e
 split at e
 ·rename_i ht; exact hA _ (hL i) ht L (i + 1) a j hL e
 ·exact hB L i a j hL e
theorem ft_pos {q : PT → Par α} (h : ∀ x, TF x → Ft c (q x)) : Ft c (posP q) := fun L i a j hL e => h _ (hL i) L i a j hL e
end
theorem ft_name : Ft TF nameP := by
 rw [nameP_eq]
 exact ft_tok (fun x h _ => ft_ret h) ft_fail
theorem ft_needF {α : Type} {c : α → Prop} (s : ByteArray) {p : Par α} (h : Ft c p) : Ft c (needF s p) := ft_tok (fun _ _ _ => h) ft_fail
theorem ft_dotsF : ∀ (f : Nat) (x : T1), fitT x → Ft fitT (dotsF f x)
 | 0, x, h => ft_ret h
 | f + 1, x, h => ft_tok (fun t ht _ => ft_bind ft_name (fun a ha => ft_dotsF f _ (fit_1 (by decide) ht ha.size h))) (ft_ret h)
theorem ft_qualF (g : Nat) : Ft fitT (qualF g) := ft_bind ft_name (fun a ha => ft_dotsF g _ (fit_0 (by decide) ha ha.size))
section
variable {e : Par T1} (ge : Ft fitT e)
include ge
theorem ft_commasF : ∀ (f : Nat) (x : T1), fitT x → Ft fitT (commasF e f x)
 | 0, x, h => ft_ret h
 | f + 1, x, h => ft_tok (fun t ht _ => ft_bind ge (fun a ha => ft_commasF f _ (fit_2 (by decide) ht nil_small h ha))) (ft_ret h)
theorem ft_desF (g : Nat) : ∀ (f : Nat) (x : T1), fitT x → Ft fitT (desF e g f x)
 | 0, x, h => ft_ret h
 | f + 1, x, h => ft_tok (fun t ht _ => ft_bind ft_name (fun a ha => ft_desF g f _ (fit_1 (by decide) ht ha.size h)))
    (ft_tok (fun t ht _ => ft_desF g f _ (fit_1 (by decide) ht nil_small h))
    (ft_tok (fun t ht _ => ft_bind ge (fun a ha => ft_bind (ft_commasF ge g _ (fit_2 (by decide) ht nil_small h ha)) (fun z hz => ft_needF _ (ft_desF g f z hz)))) (ft_ret h)))
theorem ft_designF (g : Nat) : Ft fitT (designF e g) := ft_bind (ft_qualF g) (fun x hx => ft_desF ge g g x hx)
theorem ft_elemF : Ft fitT (elemF e) := ft_pos fun t ht => ft_bind ge (fun x hx => ft_tok (fun _ _ _ => ft_bind ge (fun y hy => ft_ret (fit_2 (by decide) ht nil_small hx hy))) (ft_ret hx))
theorem ft_manyRF : ∀ (f : Nat) (l : List T1), fitL l → Ft fitL (manyRF e f l)
 | 0, x, h => ft_ret h
 | f + 1, l, h => ft_tok (fun t _ _ => ft_bind ge (fun a ha => ft_manyRF f _ (fitL_snoc ha h))) (ft_ret h)
theorem ft_manyF (g : Nat) : Ft fitL (manyF e g) := ft_bind ge (fun a ha => ft_manyRF ge g [a] (fitL_cons ha fitL_nil))
theorem ft_betweenF (g : Nat) (close : ByteArray) : Ft fitL (betweenF e g close) :=
 ft_tok (fun _ _ _ => ft_ret fitL_nil) (ft_bind (ft_manyF ge g) (fun l hl => ft_needF _ (ft_ret hl)))
end
theorem ft_bins {su : Par T1} (gs : Ft fitT su) (k : Nat) : ∀ (f : Nat) (x : T1), fitT x → Ft fitT (binsF su k f x)
 | 0, x, h => ft_ret h
 | f + 1, x, h => ft_tok (fun t ht _ => ft_bind gs (fun a ha => by
    split
    ·exact ft_ret (fit_2 (by decide) ht ht.size h ha)
    ·exact ft_bins gs k f _ (fit_2 (by decide) ht ht.size h ha))) (ft_ret h)
theorem ft_lev {fac : Par T1} (gf : Ft fitT fac) (g : Nat) : ∀ d, Ft fitT (levF fac g d)
 | 0 => gf
 | d + 1 => ft_tok (fun t ht _ => ft_bind (ft_lev gf g d) (fun x hx => ft_bins (ft_lev gf g d) _ g _ (fit_1 (by decide) ht ht.size hx)))
    (ft_bind (ft_lev gf g d) (fun x hx => ft_bins (ft_lev gf g d) _ g _ hx))
theorem fit_zero : fitT zeroT := ⟨by decide, by decide, by decide, by decide, trivial, trivial⟩
theorem ft_fact (g : Nat) : ∀ f, Ft fitT (factF g f)
 | 0 => ft_fail
 | f + 1 => by
   have h := ft_fact g f
   have e := ft_lev h g 3
   have em := ft_elemF e
   refine ft_tok (fun t ht hl => ft_ret (fit_0 ?_ ht ht.size)) (ft_tok (fun _ _ _ => ft_bind e (fun x hx => ft_needF _ (ft_ret hx)))
    (ft_tok (fun t ht _ => ft_bind h (fun x hx => ft_ret (fit_1 (by decide) ht (by decide) hx)))
    (ft_tok (fun t ht _ => ft_bind (ft_betweenF em g _) (fun l hl => ft_ret (fit_mk (by decide) ht nil_small (fitL_cons fit_zero hl))))
    (ft_pos fun t0 ht0 => ft_bind (ft_designF e g) (fun x hx => ?_)))))
   ·unfold litT at hl
    have := of_decide_eq_true hl
    omega
   ·exact ft_tok (fun _ _ _ => ft_bind (ft_betweenF em g _) (fun l hl => ft_ret (fit_mk (by decide) ht0 nil_small (fitL_cons hx hl))))
     (ft_tok (fun tj htj _ => ft_bind (ft_betweenF e g _) (fun l hl => ft_ret (fit_mk (by decide) htj nil_small (fitL_cons hx hl)))) (ft_ret hx))
theorem ft_expr (g : Nat) : Ft fitT (exprF g) := ft_lev (ft_fact g g) g 3
theorem ft_labels (g : Nat) : Ft fitT (labelsF g) := ft_pos fun t ht => ft_bind (ft_manyF (ft_elemF (ft_expr g)) g) fun l hl => ft_ret (fit_mk (by decide) ht nil_small hl)
theorem grow_labels (g : Nat) : Grow cntT 1 (labelsF g) :=
 grow_pos fun t => grow_bind (m := 1) (grow_manyF (grow_elemF (grow_lev (grow_fact g g) g 3)) g) (fun l => grow_ret (by rw [cnt_mk]; omega)) (by omega)
theorem grow_exprF (g : Nat) : Grow cntT 0 (exprF g) := grow_lev (grow_fact g g) g 3
theorem exact_self : ∀ f : Fo, f.exact f = true
 | .no => rfl
 | .node d k r => by simp [Fo.exact, exact_self k, exact_self r]
end Go.Proofs.Ytecmjhohniipoaa.Ex
namespace Go.Proofs.Ytecmjhohniipoaa.Ex
open Go.RowKit
open Tr (Nd Fo RepS RepN Rep cellsN)
open Lx (Tk noTk Blk run_store_complexL TokAt)
open Fl
attribute [local go_sem] run_store_complexL run_field1 run_field3
section
variable {w0 w : World} {br c j : Nat} {A : Option Addr} {L : List PT}
set_option maxRecDepth 100000 in set_option maxHeartbeats 6400000 in
theorem told_ok (h : QInv w0 w br A c L j false) (pa : Option Addr) : Calls Try.prog 19 #[.pointer (some ⟨br, 0, none⟩), .pointer pa] w fun e w' => e = .returned (.tuple #[.pointer pa, .int .i64 j, .int .i64 0]) ∧ Below w.heap.size w w' := by
 obtain ⟨m1, f1, m2, f2, hlt⟩ := h.at_
 have HB := qh (Below.refl w.heap.size w)
 clear h
 go_enter Try.func19, Try.ntmps19
 go_wp2
 go_quiet (fail)
 go_wp2
 go_ret3
 exact ⟨rfl, Lx.below_drewN HB.out _⟩
set_option maxRecDepth 100000 in set_option maxHeartbeats 6400000 in
theorem told_bad (h : QInv w0 w br A c L j true) (pa : Option Addr) : Calls Try.prog 19 #[.pointer (some ⟨br, 0, none⟩), .pointer pa] w fun e w' => e = .returned (.tuple #[.pointer none, .int .i64 j, .int .i64 60]) ∧ Below w.heap.size w w' := by
 obtain ⟨m1, f1, m2, f2, hlt⟩ := h.at_
 have HB := qh (Below.refl w.heap.size w)
 clear h
 go_enter Try.func19, Try.ntmps19
 go_wp2
 go_quiet (fail)
 go_wp2
 go_ret3
 exact ⟨rfl, Lx.below_drewN HB.out _⟩
end
end Go.Proofs.Ytecmjhohniipoaa.Ex
namespace Go.Proofs.Ytecmjhohniipoaa.Ex
open Go.RowKit
open Tr (Nd Fo RepS RepN Rep cellsN)
open Lx (Tk noTk Blk run_store_complexL TokAt)
open Fl
attribute [local go_sem] run_store_complexL run_field1 run_field3
set_option maxRecDepth 100000 in set_option maxHeartbeats 6400000 in
theorem same_nil (w : World) : Calls Try.prog 14 #[.pointer none, .pointer none] w fun e w' => e = .returned (.bool true) ∧ w = w' := by
 go_enter Try.func14, Try.ntmps14
 go_wp2
 go_ret
 exact ⟨rfl, rfl⟩
set_option maxRecDepth 100000 in set_option maxHeartbeats 6400000 in
theorem exact_nil (w : World) : Calls Try.prog 12 #[.pointer none, .pointer none] w fun e w' => e = .returned (.bool true) ∧ w = w' := by
 have S := qh (same_nil w)
 go_enter Try.func12, Try.ntmps12
 go_wp2_with fail
 ((with_reducible refine S.out.mono ?_); rintro e w1 ⟨rfl, rfl⟩)
 go_wp2
 go_ret
 exact ⟨rfl, rfl⟩
theorem exact_at {w : World} {x : T1} {b b' : Nat} {S S' : Nat → Prop} (hx : RepS S w (.node x.1 x.2 .no) [.pointer (some ⟨b, 0, none⟩)]) (hy : RepS S' w (.node x.1 x.2 .no) [.pointer (some ⟨b', 0, none⟩)]) (hf : fitT x) (hc : cntT x ≤ 1000000) :
 Calls Try.prog 12 #[.pointer (some ⟨b, 0, none⟩), .pointer (some ⟨b', 0, none⟩)] w fun e w' => e = .returned (.bool true) ∧ ∃ m, w' = w.drewN m := by
 have := Tr.exact_any _ x.1 x.2 x.1 x.2 _ _ w (Nat.le_refl _) hc hf hf hx.rep hy.rep
 rw [exact_self] at this
 exact this
end Go.Proofs.Ytecmjhohniipoaa.Ex
end

section
namespace Go.Proofs.Ytecmjhohniipoaa.St
open Go.RowKit
open Tr (Nd Fo)
open Lx (Tk noTk)
open Ex
def Lock2 {α : Type} (m : Nat) (r r' : Except Nat (α × Nat)) : Prop :=
 (r' = r ∧ (match r with | .ok (_, j) => j ≤ m | .error k => k < m)) ∨ (posE r' = m ∧ m ≤ posE r)
structure Good2 {α : Type} (p : Par α) : Prop where
 mono : ∀ L i, i ≤ posE (p L i)
 end_ : ∀ L i, L.length ≤ i → posE (p L i) = i
 lock : ∀ L m i, i ≤ m → m ≤ L.length → Lock2 m (p L i) (p (L.take m) i)
section
variable {α β : Type}
theorem g2_of {p : Par α} (h : Ex.Good p) : Good2 p := ⟨h.mono, h.end_, fun L m i hi hm => by
 rcases h.lock L m i hi hm with h1 | ⟨h1, h2⟩
 ·exact .inl h1
 ·refine .inr ⟨h1, ?_⟩
  cases e : p L i with
  | error k => rw [e] at h2; exact h2
  | ok r => obtain ⟨a, j⟩ := r; rw [e] at h2; exact Nat.le_of_lt h2⟩
theorem g2_ret (a : α) : Good2 (retP a) := g2_of (good_ret a)
theorem g2_fail : Good2 (failP (α := α)) := g2_of good_fail
theorem g2_end {p : Par α} (h : Good2 p) {L : List PT} {m : Nat} (hm : m ≤ L.length) : posE (p (L.take m) m) = m := h.end_ _ _ (by rw [Ex.take_len hm]; exact Nat.le_refl _)
theorem g2_bind {p : Par α} {q : α → Par β} (hp : Good2 p) (hq : ∀ a, Good2 (q a)) : Good2 (bindP p q) := by
 have hmono : ∀ L i, posE (p L i) ≤ posE (bindP p q L i) := by
  intro L i
  unfold bindP
  cases e : p L i with
  | error k => exact Nat.le_refl _
  | ok r => obtain ⟨a, j⟩ := r; exact (hq a).mono L j
 refine ⟨fun L i => Nat.le_trans (hp.mono L i) (hmono L i), fun L i h => ?_, fun L m i him hm => ?_⟩
 ·have h1 := hp.end_ L i h
  unfold bindP
  cases e : p L i with
  | error k => rw [e] at h1; exact h1
  | ok r =>
    obtain ⟨a, j⟩ := r
    rw [e] at h1
    have h1 : j = i := h1
    subst h1
    exact (hq a).end_ L j h
 ·have hM := hmono L i
  rcases hp.lock L m i him hm with ⟨h1, h2⟩ | ⟨h1, h2⟩
  ·cases e : p L i with
   | error k =>
     rw [e] at h1 h2
     refine .inl ⟨by unfold bindP; rw [h1, e], ?_⟩
     unfold bindP
     rw [e]
     exact h2
   | ok r =>
     obtain ⟨a, j⟩ := r
     rw [e] at h1 h2
     have := (hq a).lock L m j h2 hm
     unfold bindP
     rw [h1, e]
     exact this
  ·refine .inr ⟨?_, Nat.le_trans h2 hM⟩
   unfold bindP
   cases e : p (L.take m) i with
   | error k => rw [e] at h1; exact h1
   | ok r =>
     obtain ⟨a, j⟩ := r
     rw [e] at h1
     have h1 : j = m := h1
     subst h1
     exact g2_end (hq a) hm
theorem g2_pos {q : PT → Par α} (hq : ∀ x, Good2 (q x)) : Good2 (posP q) := by
 refine ⟨fun L i => (hq _).mono L i, fun L i h => (hq _).end_ L i h, fun L m i him hm => ?_⟩
 rcases Nat.lt_or_ge i m with h1 | h1
 ·unfold posP
  rw [tk_take h1]
  exact (hq _).lock L m i him hm
 ·have : i = m := by omega
  subst this
  exact .inr ⟨g2_end (hq _) hm, (hq _).mono L i⟩
theorem g2_tok {t : PT → Bool} {A : PT → Par α} {B : Par α} (t0 : t noPT = false) (hA : ∀ x, Good2 (A x)) (hB : Good2 B) : Good2 (tokP t A B) := by
 have hmono : ∀ L i, i ≤ posE (tokP t A B L i) := by
  intro L i
  unfold tokP
  split
  ·exact Nat.le_trans (Nat.le_succ i) ((hA _).mono L (i + 1))
  ·exact hB.mono L i
 have hend : ∀ L i, L.length ≤ i → posE (tokP t A B L i) = i := by
  intro L i h
  unfold tokP
  rw [tk_end h, if_neg (by rw [t0]; simp)]
  exact hB.end_ L i h
 refine ⟨hmono, hend, fun L m i him hm => ?_⟩
 rcases Nat.lt_or_ge i m with h1 | h1
 ·unfold tokP
  rw [tk_take h1]
  split
  ·exact (hA _).lock L m (i + 1) h1 hm
  ·exact hB.lock L m i him hm
 ·have : i = m := by omega
  subst this
  exact .inr ⟨hend _ _ (by rw [Ex.take_len hm]; exact Nat.le_refl _), hmono L i⟩
theorem g2_need {s : ByteArray} {p : Par α} (h : Good2 p) : Good2 (needF s p) := g2_tok (tT_no s) (fun _ => h) g2_fail
theorem g2_le {p : Par α} (h : Good2 p) {L : List PT} {i : Nat} (hi : i ≤ L.length) : posE (p L i) ≤ L.length := by
 have h1 := h.lock L L.length i hi (Nat.le_refl _)
 rw [List.take_length] at h1
 rcases h1 with ⟨_, h1⟩ | ⟨h1, _⟩
 ·cases e : p L i with
  | error j => rw [e] at h1; exact Nat.le_of_lt h1
  | ok x => obtain ⟨x, j⟩ := x; rw [e] at h1; exact h1
 ·exact Nat.le_of_eq h1
theorem g2_max {p : Par α} (h : Good2 p) (L : List PT) (i : Nat) : i ≤ posE (p L i) ∧ (i ≤ L.length → posE (p L i) ≤ L.length) ∧ (L.length ≤ i → posE (p L i) = i) := ⟨h.mono L i, g2_le h, h.end_ L i⟩
end
abbrev sSem : ByteArray := ⟨#[59]⟩
abbrev sAsg : ByteArray := ⟨#[58, 61]⟩
abbrev sCol : ByteArray := ⟨#[58]⟩
abbrev sBar : ByteArray := ⟨#[124]⟩
abbrev sIf : ByteArray := ⟨#[73, 70]⟩
abbrev sThen : ByteArray := ⟨#[84, 72, 69, 78]⟩
abbrev sElsif : ByteArray := ⟨#[69, 76, 83, 73, 70]⟩
abbrev sElse : ByteArray := ⟨#[69, 76, 83, 69]⟩
abbrev sEnd : ByteArray := ⟨#[69, 78, 68]⟩
abbrev sCase : ByteArray := ⟨#[67, 65, 83, 69]⟩
abbrev sOf : ByteArray := ⟨#[79, 70]⟩
abbrev sWhile : ByteArray := ⟨#[87, 72, 73, 76, 69]⟩
abbrev sDo : ByteArray := ⟨#[68, 79]⟩
abbrev sRepeat : ByteArray := ⟨#[82, 69, 80, 69, 65, 84]⟩
abbrev sUntil : ByteArray := ⟨#[85, 78, 84, 73, 76]⟩
abbrev sLoop : ByteArray := ⟨#[76, 79, 79, 80]⟩
abbrev sExit : ByteArray := ⟨#[69, 88, 73, 84]⟩
abbrev sFor : ByteArray := ⟨#[70, 79, 82]⟩
abbrev sTo : ByteArray := ⟨#[84, 79]⟩
abbrev sBy : ByteArray := ⟨#[66, 89]⟩
abbrev sWith : ByteArray := ⟨#[87, 73, 84, 72]⟩
abbrev sReturn : ByteArray := ⟨#[82, 69, 84, 85, 82, 78]⟩
def isWd6 (s : ByteArray) (t : PT) : Bool := decide (t.1.kind = 6) && decide (t.1.text = s)
def isNm (t : PT) : Bool := decide (t.1.kind = 1)
def armOut (t : PT) : Bool := tT sBar t || tT sElse t || tT sEnd t
def retOut (t : PT) : Bool := decide (t.1.kind = 0) || tT sSem t || tT sBar t || tT sEnd t || tT sElse t || tT sElsif t || tT sUntil t
section
variable (g : Nat) (bd : Par T1)
def endS (kind : Nat) (p : Nat × Nat) (name : ByteArray) (l : List T1) : Par T1 := needF sEnd (retP (mk kind p name 0 l))
def ifsF : Nat → List T1 → Par (List T1)
 | 0, _ => failP
 | f + 1, acc => bindP (exprF g) fun c => needF sThen (bindP bd fun b => tokP (tT sElsif) (fun _ => ifsF f (acc ++ [c, b])) (retP (acc ++ [c, b])))
def elseS (kind : Nat) (p : Nat × Nat) (l : List T1) : Par T1 := tokP (tT sElse) (fun _ => bindP bd fun b => endS kind p sNil (l ++ [b])) (endS kind p sNil l)
def ifS (p : Nat × Nat) : Par T1 := bindP (ifsF g bd g []) fun l => elseS bd 62 p l
def armsF : Nat → List T1 → Par (List T1)
 | 0, _ => failP
 | f + 1, acc => posP fun t0 => if armOut t0 = true then tokP (tT sBar) (fun _ => armsF f acc) (retP acc)
   else bindP (labelsF g) fun l => needF sCol (bindP bd fun b => tokP (tT sBar) (fun _ => armsF f (acc ++ [mk 28 t0.2.1 sNil 0 [l, b]])) (retP (acc ++ [mk 28 t0.2.1 sNil 0 [l, b]])))
def caseS (p : Nat × Nat) : Par T1 := bindP (exprF g) fun x => needF sOf (bindP (armsF g bd g [x]) fun l => tokP (tT sElse) (fun t => bindP bd fun b => endS 63 p sNil (l ++ [mk 30 t.2.1 sNil 0 [b]])) (endS 63 p sNil l))
def whileS (p : Nat × Nat) : Par T1 := bindP (exprF g) fun c => needF sDo (bindP bd fun b => endS 64 p sNil [c, b])
def repS (p : Nat × Nat) : Par T1 := bindP bd fun b => needF sUntil (bindP (exprF g) fun c => retP (mk 65 p sNil 0 [b, c]))
def loopS (p : Nat × Nat) : Par T1 := bindP bd fun b => endS 66 p sNil [b]
def exitS (p : Nat × Nat) : Par T1 := retP (mk 67 p sNil 0 [])
def forE (p : Nat × Nat) (v : ByteArray) (a z y : T1) : Par T1 := needF sDo (bindP bd fun b => endS 68 p v [a, z, y, b])
def forS (p : Nat × Nat) : Par T1 := tokP isNm (fun v => needF sAsg (bindP (exprF g) fun a => needF sTo (bindP (exprF g) fun z => tokP (tT sBy) (fun _ => bindP (exprF g) fun y => forE bd p v.1.text a z y) (forE bd p v.1.text a z zeroT)))) failP
def withS (p : Nat × Nat) : Par T1 := bindP (designF (exprF g) g) fun d => needF sDo (bindP bd fun b => endS 69 p sNil [d, b])
def returnS (p : Nat × Nat) : Par T1 := posP fun t => if retOut t = true then retP (mk 70 p sNil 0 []) else bindP (exprF g) fun x => retP (mk 70 p sNil 0 [x])
def plainS : Par T1 := posP fun t0 => bindP (designF (exprF g) g) fun d => posP fun t1 => tokP (tT sAsg) (fun _ => bindP (exprF g) fun y => retP (mk 60 t1.2.1 sNil 0 [d, y]))
 (tokP (tT sPar) (fun _ => bindP (betweenF (exprF g) g sRap) fun l => retP (mk 61 t0.2.1 sNil 0 (d :: l))) (retP (mk 61 t0.2.1 sNil 0 [d])))
def alts : List (ByteArray × (Nat × Nat → Par T1)) := [(sIf, ifS g bd), (sCase, caseS g bd), (sWhile, whileS g bd), (sRepeat, repS g bd), (sLoop, loopS bd), (sExit, exitS), (sFor, forS g bd), (sWith, withS g bd), (sReturn, returnS g)]
def stmL : List (ByteArray × (Nat × Nat → Par T1)) → Par (List T1)
 | [] => posP fun t => if isNm t = true then bindP (plainS g) fun x => retP [x] else retP []
 | (s, q) :: r => tokP (isWd6 s) (fun t => bindP (q t.2.1) fun x => retP [x]) (stmL r)
def stmS : Par (List T1) := stmL g (alts g bd)
def bodyR : Nat → List T1 → Par (List T1)
 | 0, _ => failP
 | f + 1, acc => bindP (stmS g bd) fun s => tokP (tT sSem) (fun _ => bodyR f (acc ++ s)) (retP (acc ++ s))
def bodyG : Par T1 := posP fun t0 => bindP (bodyR g bd g []) fun l => retP (mk 46 t0.2.1 sNil 0 l)
end
def bodyF (g : Nat) : Nat → Par T1
 | 0 => failP
 | f + 1 => bodyG g (bodyF g f)
section
variable {g : Nat} {bd : Par T1} (hb : Good2 bd)
theorem g2_expr : Good2 (exprF g) := g2_of (good_exprF g)
theorem g2_design : Good2 (designF (exprF g) g) := g2_of (good_designF (good_exprF g) g)
theorem g2_labels : Good2 (labelsF g) := g2_of (good_labelsF g)
theorem g2_endS {k : Nat} {p : Nat × Nat} {n : ByteArray} {l : List T1} : Good2 (endS k p n l) := g2_need (g2_ret _)
include hb
theorem g2_ifsF : ∀ (f : Nat) (acc : List T1), Good2 (ifsF g bd f acc)
 | 0, _ => g2_fail
 | f + 1, acc => g2_bind g2_expr fun c => g2_need (g2_bind hb fun b => g2_tok (tT_no _) (fun _ => g2_ifsF f _) (g2_ret _))
theorem g2_elseS {k : Nat} {p : Nat × Nat} {l : List T1} : Good2 (elseS bd k p l) := g2_tok (tT_no _) (fun _ => g2_bind hb fun b => g2_endS) g2_endS
theorem g2_ifS {p : Nat × Nat} : Good2 (ifS g bd p) := g2_bind (g2_ifsF hb _ _) fun l => g2_elseS hb
theorem g2_armsF : ∀ (f : Nat) (acc : List T1), Good2 (armsF g bd f acc)
 | 0, _ => g2_fail
 | f + 1, acc => g2_pos fun t0 => by
   split
   ·exact g2_tok (tT_no _) (fun _ => g2_armsF f _) (g2_ret _)
   ·exact g2_bind g2_labels fun l => g2_need (g2_bind hb fun b => g2_tok (tT_no _) (fun _ => g2_armsF f _) (g2_ret _))
theorem g2_caseS {p : Nat × Nat} : Good2 (caseS g bd p) := g2_bind g2_expr fun x => g2_need (g2_bind (g2_armsF hb _ _) fun l => g2_tok (tT_no _) (fun t => g2_bind hb fun b => g2_endS) g2_endS)
theorem g2_whileS {p : Nat × Nat} : Good2 (whileS g bd p) := g2_bind g2_expr fun c => g2_need (g2_bind hb fun b => g2_endS)
theorem g2_repS {p : Nat × Nat} : Good2 (repS g bd p) := g2_bind hb fun b => g2_need (g2_bind g2_expr fun c => g2_ret _)
theorem g2_loopS {p : Nat × Nat} : Good2 (loopS bd p) := g2_bind hb fun b => g2_endS
theorem g2_forE {p : Nat × Nat} {v : ByteArray} {a z y : T1} : Good2 (forE bd p v a z y) := g2_need (g2_bind hb fun b => g2_endS)
theorem g2_forS {p : Nat × Nat} : Good2 (forS g bd p) := g2_tok rfl (fun v => g2_need (g2_bind g2_expr fun a => g2_need (g2_bind g2_expr fun z => g2_tok (tT_no _) (fun _ => g2_bind g2_expr fun y => g2_forE hb) (g2_forE hb)))) g2_fail
theorem g2_withS {p : Nat × Nat} : Good2 (withS g bd p) := g2_bind g2_design fun c => g2_need (g2_bind hb fun b => g2_endS)
omit hb in
theorem g2_returnS {p : Nat × Nat} : Good2 (returnS g p) := g2_pos fun t => by
 split
 ·exact g2_ret _
 ·exact g2_bind g2_expr fun x => g2_ret _
omit hb in
theorem g2_plainS : Good2 (plainS g) := g2_pos fun t0 => g2_bind g2_design fun d => g2_pos fun t1 => g2_tok (tT_no _) (fun _ => g2_bind g2_expr fun y => g2_ret _)
 (g2_tok (tT_no _) (fun _ => g2_bind (g2_of (good_betweenF (good_exprF g) g _)) fun l => g2_ret _) (g2_ret _))
theorem g2_alts : ∀ x ∈ alts g bd, ∀ p, Good2 (x.2 p) := by
 intro x hx p
 unfold alts at hx
 simp only [List.mem_cons, List.not_mem_nil, or_false] at hx
 rcases hx with rfl | rfl | rfl | rfl | rfl | rfl | rfl | rfl | rfl
 ·exact g2_ifS hb
 ·exact g2_caseS hb
 ·exact g2_whileS hb
 ·exact g2_repS hb
 ·exact g2_loopS hb
 ·exact g2_ret _
 ·exact g2_forS hb
 ·exact g2_withS hb
 ·exact g2_returnS
omit hb in
theorem g2_stmL : ∀ (l : List (ByteArray × (Nat × Nat → Par T1))), (∀ x ∈ l, ∀ p, Good2 (x.2 p)) → Good2 (stmL g l)
 | [], _ => g2_pos fun t => by
   split
   ·exact g2_bind g2_plainS fun x => g2_ret _
   ·exact g2_ret _
 | (s, q) :: r, h => g2_tok (by simp [isWd6, noPT, noTk]) (fun t => g2_bind (h _ (List.mem_cons_self ..) _) fun x => g2_ret _) (g2_stmL r fun x hx => h x (List.mem_cons_of_mem _ hx))
theorem g2_stmS : Good2 (stmS g bd) := g2_stmL _ (g2_alts hb)
theorem g2_bodyR : ∀ (f : Nat) (acc : List T1), Good2 (bodyR g bd f acc)
 | 0, _ => g2_fail
 | f + 1, acc => g2_bind (g2_stmS hb) fun s => g2_tok (tT_no _) (fun _ => g2_bodyR f _) (g2_ret _)
theorem g2_bodyG : Good2 (bodyG g bd) := g2_pos fun t0 => g2_bind (g2_bodyR hb _ _) fun l => g2_ret _
end
theorem g2_bodyF (g : Nat) : ∀ f, Good2 (bodyF g f)
 | 0 => g2_fail
 | f + 1 => g2_bodyG (g2_bodyF g f)
end Go.Proofs.Ytecmjhohniipoaa.St
end
