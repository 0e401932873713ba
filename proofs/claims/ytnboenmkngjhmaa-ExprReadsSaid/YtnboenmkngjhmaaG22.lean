/- Factor of the reference, all together; Expr, Designator, Qualident, Labels at every place of a row. What the tokens of a source are, and that trees read of them fit. Plain. The walks of the reference's Told and Do; the four at places below none. The walk of ExprReads. -/
import Derived.Test.YtnboenmkngjhmaaG17
import Derived.Test.YtnboenmkngjhmaaG18
import Derived.Test.YtnboenmkngjhmaaG9
import Derived.Test.YtnboenmkngjhmaaG13
import Derived.Test.YtnboenmkngjhmaaF5
import Derived.Test.YtnboenmkngjhmaaG4
set_option linter.unusedSimpArgs false
set_option linter.unusedVariables false

namespace Go.Proofs.Ytnboenmkngjhmaa.Ex
open Go.RowKit
open Tr (Nd Fo RepS RepN Rep cellsN)
open Lx (Tk noTk Blk run_store_complexL TokAt)
open Fl
attribute [local go_sem] run_store_complexL run_field1 run_field3

theorem fact_eq {L : List PT} {g : Nat} (hg : L.length < g) : ∀ (f i : Nat), factP L f i = factF g f L i
  | 0, i => rfl
  | f + 1, i => by
    obtain ⟨f1, f2⟩ := fact_gs g f
    have ih : ∀ j, i + 1 ≤ j → factP L f j = factF g f L j := fun j _ => fact_eq hg f j
    have el : ∀ j, i + 1 ≤ j → exprG L (factP L f) j = levF (factF g f) g 3 L j := fun j hj => lev_fuel f1 f2 ih hg 3 j hj
    have e1 := good_levF g f1 3
    have e2 := strict_levF g f1 f2 3
    have em : ∀ j, i + 1 ≤ j → elemP L (exprG L (factP L f)) j = elemF (levF (factF g f) g 3) L j := fun j hj => elem_fuel e2 el hj
    have em2 := strict_elemF e1 e2
    unfold factP factF tokP
    rw [isT_tT L i sPar, isT_tT L i sNot, isT_tT L i sCur]
    by_cases hk : 2 ≤ (tk L i).1.kind ∧ (tk L i).1.kind ≤ 4
    · rw [if_pos hk, if_pos (show litT (tk L i) = true from by simp [litT, hk])]; rfl
    rw [if_neg hk, if_neg (show ¬ litT (tk L i) = true from by simpa [litT] using hk)]
    by_cases h1 : tT sPar (tk L i) = true
    · rw [if_pos h1, if_pos h1]
      unfold bindP
      try dsimp only
      rw [el (i + 1) (by omega)]
      cases e3 : levF (factF g f) g 3 L (i + 1) with
      | error k => rfl
      | ok r =>
        obtain ⟨x, j⟩ := r
        dsimp only
        rw [← need_eq]
        rfl
    rw [if_neg h1, if_neg h1]
    by_cases h2 : tT sNot (tk L i) = true
    · rw [if_pos h2, if_pos h2]
      unfold bindP
      try dsimp only
      rw [ih (i + 1) (by omega)]
      cases factF g f L (i + 1) <;> rfl
    rw [if_neg h2, if_neg h2]
    by_cases h3 : tT sCur (tk L i) = true
    · rw [if_pos h3, if_pos h3]
      unfold bindP
      try dsimp only
      rw [between_fuel em2 em hg _ (by omega)]
      cases betweenF (elemF (levF (factF g f) g 3)) g sRuc L (i + 1) <;> rfl
    rw [if_neg h3, if_neg h3]
    unfold posP bindP
    rw [design_fuel e1 e2 el hg]
    dsimp only
    cases e3 : designF (levF (factF g f) g 3) g L i with
    | error k => rfl
    | ok r =>
      obtain ⟨x, j⟩ := r
      have := strict_designF e1 g L i x j e3
      dsimp only
      unfold tailF tokP
      rw [isT_tT L j sCur, isT_tT L j sPar]
      by_cases h4 : plainT x = true ∧ tT sCur (tk L j) = true
      · rw [if_pos h4, if_pos (show (plainT x && tT sCur (tk L j)) = true from by simp [h4])]
        unfold bindP
        try dsimp only
        rw [between_fuel em2 em hg _ (by omega)]
        cases betweenF (elemF (levF (factF g f) g 3)) g sRuc L (j + 1) <;> rfl
      rw [if_neg h4, if_neg (show ¬ (plainT x && tT sCur (tk L j)) = true from by simpa using h4)]
      by_cases h5 : tT sPar (tk L j) = true
      · rw [if_pos h5, if_pos h5]
        unfold bindP
        try dsimp only
        rw [between_fuel e2 el hg _ (by omega)]
        cases betweenF (levF (factF g f) g 3) g sRap L (j + 1) <;> rfl
      rw [if_neg h5, if_neg h5]
      rfl
theorem rn_down {F : Nat} {sp : Nat → Except Nat (T1 × Nat)} {w0 : World} {br c : Nat} {A : Option Addr} {L : List PT} {lo : Nat}
    (h : ∀ i, lo ≤ i → i ≤ 60000 → RnOK F sp (i + 1) w0 br A c L → ∀ w, QInv w0 w br A c L i false → Calls Try.prog F #[.pointer (some ⟨br, 0, none⟩)] w (RefR w.heap.size w0 w br A c L (sp i))) : ∀ n i, lo ≤ i → 60001 ≤ i + n → RnOK F sp i w0 br A c L := by
  intro n
  induction n with
  | zero => intro i hlo hi j hj hj2; omega
  | succ n ih =>
    intro i hlo hi j hj hj2 w hw
    have h1 := ih (i + 1) (by omega) (by omega)
    rcases Nat.eq_or_lt_of_le hj with e | e
    · subst e; exact h i hlo hj2 h1 w hw
    · exact h1 j e hj2 w hw
section
variable {w0 : World} {br c : Nat} {A : Option Addr} {L : List PT} (ht : Toks w0 br A L) (ok : OKRow L)
include ht ok
theorem rexpr_of {f lo : Nat} (hF : RnOK 70 (factP L f) lo w0 br A c L) : RnOK 25 (exprG L (factP L f)) lo w0 br A c L := by
  have fs := fact_gs (L.length + 1) f
  have h0 : ∀ j, factP L f j = factF (L.length + 1) f L j := fun j => fact_eq (Nat.lt_succ_self _) f j
  have hl : ∀ d j, levD L (factP L f) d j = levF (factF (L.length + 1) f) (L.length + 1) d L j := fun d j => lev_fuel (lo := 0) fs.1 fs.2 (fun j _ => h0 j) (Nat.lt_succ_self _) d j (Nat.zero_le _)
  have h1 := rterm_any fs.1 fs.2 ht ok h0 hF (factP_ok f)
  have h2 := rsimple_any (good_levF _ fs.1 1) (strict_levF _ fs.1 fs.2 1) ht ok (hl 1) h1 (levD_ok (factP_ok f) 1)
  exact rexpr_any (good_levF _ fs.1 2) ht ok (hl 2) h2 (levD_ok (factP_ok f) 2)
theorem rfac_lits (i : Nat) (hi : i ≤ 60000) (w : World) (h : QInv w0 w br A c L i false) (hk : 2 ≤ (tk L i).1.kind ∧ (tk L i).1.kind ≤ 4) :
    Calls Try.prog 70 #[.pointer (some ⟨br, 0, none⟩)] w (RefR w.heap.size w0 w br A c L (.ok (mk ((tk L i).1.kind + 3) (pos L i) (tk L i).1.text (tk L i).1.n [], i + 1))) := by
  have h3 : (tk L i).1.kind = 2 ∨ (tk L i).1.kind = 3 ∨ (tk L i).1.kind = 4 := by omega
  rcases h3 with e | e | e
  · rw [e, (ok i).num (.inl e)]
    exact rfac_2 ht ok i hi w h e
  · rw [e, (ok i).num (.inr e)]
    exact rfac_3 ht ok i hi w h e
  · rw [e, (ok i).str e]
    exact rfac_4 ht ok i hi w h e
theorem rfac_last {f : Nat} (i : Nat) (hF : RnOK 70 (factP L f) (i + 1) w0 br A c L) (hi : i ≤ 60000) (w : World) (h : QInv w0 w br A c L i false) (hk : ¬ (2 ≤ (tk L i).1.kind ∧ (tk L i).1.kind ≤ 4)) (hP : isT L i sPar = false) (hN : isT L i sNot = false) (hC : isT L i sCur = false) :
    Calls Try.prog 70 #[.pointer (some ⟨br, 0, none⟩)] w (RefR w.heap.size w0 w br A c L (factP L (f + 1) i)) := by
  have hg : L.length < L.length + 1 := Nat.lt_succ_self _
  have fs := fact_gs (L.length + 1) f
  have e1 := good_levF (L.length + 1) fs.1 3
  have e2 := strict_levF (L.length + 1) fs.1 fs.2 3
  have hx : ∀ j, exprG L (factP L f) j = levF (factF (L.length + 1) f) (L.length + 1) 3 L j := fun j => lev_fuel (lo := 0) fs.1 fs.2 (fun j _ => fact_eq hg f j) hg 3 j (Nat.zero_le _)
  have hE := rexpr_of ht ok hF
  have hm : SpOK L (exprG L (factP L f)) := levD_ok (factP_ok f) 3
  have hD := rdesign_any e1 e2 (lo := i) ht ok hx hE hm
  have hL := relem_any e1 ht ok hx hE hm
  have hme := err_bd (good_elemF e1 e2) (fun j => elem_fuel (lo := 0) e2 (fun j _ => hx j) (Nat.zero_le j)) ht.len
  have hde := err_bd (good_designF e1 (L.length + 1)) (fun j => design_fuel e1 e2 (fun j _ => hx j) hg) ht.len
  have := rfac_des e1 (lo := i) ht ok hx hE hm hD (designP_ok hm) (fun i x j h => designP_dot h) hL (elemP_ok hm) hme hde i (Nat.le_refl _) hi w h hk hC hP hN
  rw [factP_succ, if_neg hk, if_neg (by rw [hP]; simp), if_neg (by rw [hN]; simp), if_neg (by rw [hC]; simp)]
  exact this
theorem rfac_any : ∀ (f lo : Nat), L.length < lo + f → RnOK 70 (factP L f) lo w0 br A c L := by
  intro f
  induction f with
  | zero =>
    intro lo hlo
    refine rn_down (lo := lo) (fun i hi hi2 hF w hw => ?_) 60001 lo (Nat.le_refl _) (by omega)
    have he : L.length ≤ i := by omega
    have := rfac_last ht ok i hF hi2 w hw (by rw [kind_end he]; omega) (isT_end he) (isT_end he) (isT_end he)
    rw [factP_end he] at this
    exact this
  | succ f ih =>
    intro lo hlo i hi hi2 w hw
    have hF := ih (i + 1) (by omega)
    by_cases hk : 2 ≤ (tk L i).1.kind ∧ (tk L i).1.kind ≤ 4
    · rw [factP_succ, if_pos hk]
      exact rfac_lits ht ok i hi2 w hw hk
    · have hg : L.length < L.length + 1 := Nat.lt_succ_self _
      have fs := fact_gs (L.length + 1) f
      have e1 := good_levF (L.length + 1) fs.1 3
      have e2 := strict_levF (L.length + 1) fs.1 fs.2 3
      have hx : ∀ j, exprG L (factP L f) j = levF (factF (L.length + 1) f) (L.length + 1) 3 L j := fun j => lev_fuel (lo := 0) fs.1 fs.2 (fun j _ => fact_eq hg f j) hg 3 j (Nat.zero_le _)
      have hE := rexpr_of ht ok hF
      have hm : SpOK L (exprG L (factP L f)) := levD_ok (factP_ok f) 3
      cases hC : isT L i sCur
      · cases hP : isT L i sPar
        · cases hN : isT L i sNot
          · exact rfac_last ht ok i hF hi2 w hw hk hP hN hC
          · rw [factP_succ, if_neg hk, if_neg (by rw [hP]; simp), if_pos hN]
            exact rfac_not ht ok hF i (Nat.le_refl _) hi2 w hw hk hC hP hN
        · rw [factP_succ, if_neg hk, if_pos hP]
          exact rfac_par e1 ht ok hx hE hm i (Nat.le_refl _) hi2 w hw hk hC hP
      · rw [factP_succ, if_neg hk, if_neg (by rw [isT_other (s' := sPar) hC (by decide)]; simp), if_neg (by rw [isT_other (s' := sNot) hC (by decide)]; simp), if_pos hC]
        have hL := relem_any e1 ht ok hx hE hm
        have hme := err_bd (good_elemF e1 e2) (fun j => elem_fuel (lo := 0) e2 (fun j _ => hx j) (Nat.zero_le j)) ht.len
        exact rfac_set ht ok hL (elemP_ok hm) hme i (Nat.le_refl _) hi2 w hw hk hC
/-- EXPR, DESIGNATOR, LABELS of the reference, at every place of a row. -/
theorem rexpr_all : RnOK 25 (exprP L) 0 w0 br A c L := rexpr_of ht ok (rfac_any ht ok (L.length + 1) 0 (by omega))
theorem rdesign_all : RnOK 26 (designP L (exprP L)) 0 w0 br A c L :=
  rdesign_any (good_exprF (L.length + 1)) (strict_exprF (L.length + 1)) ht ok (fun j => expr_fuel (Nat.lt_succ_self _) j) (fun j _ => rexpr_all ht ok j (Nat.zero_le _)) exprP_ok
theorem rlabels_all : RnOK 28 (labelsP L) 0 w0 br A c L := fun i hlo hi w h => by
  have hx : ∀ j, exprP L j = exprF (L.length + 1) L j := fun j => expr_fuel (Nat.lt_succ_self _) j
  have hL := relem_any (good_exprF (L.length + 1)) ht ok hx (rexpr_all (c := c) ht ok) exprP_ok
  have hme := err_bd (good_elemF (good_exprF (L.length + 1)) (strict_exprF (L.length + 1))) (fun j => elem_fuel (lo := 0) (strict_exprF (L.length + 1)) (fun j _ => hx j) (Nat.zero_le j)) ht.len
  have := rlabels_any ht ok hL (elemP_ok exprP_ok) hme i hlo hi w h
  unfold labelsP
  exact this
theorem rqual_all : RnOK 27 (qualP L) 0 w0 br A c L := fun i hlo hi w h => rqual_any ht ok (by omega) w h
end
end Go.Proofs.Ytnboenmkngjhmaa.Ex

namespace Go.Proofs.Ytnboenmkngjhmaa.Ex
open Go.RowKit
open Tr (Nd Fo)
open Lx (bt Tk noTk isL isD isP isX oneN numN symN item scanL scanF at_ at_is)
open Fl Pl

/-- A token of a source: what it is, and its text is no longer than the source. -/
structure TkS (n : Nat) (t : Tk) : Prop where
  ok : OKTk t
  size : t.text.size ≤ n
theorem tks_no (n : Nat) : TkS n noTk := ⟨⟨fun h => absurd h (by decide), fun h => absurd h (by decide), fun h => rfl, fun h => absurd h (by decide)⟩, Nat.zero_le _⟩
theorem num_tk {s : List UInt8} {t : Tk} (h : numN s = some t) : (t.kind = 2 ∨ t.kind = 3) ∧ t.text = sNil := by
  have hm : ∀ (k : Nat) (o : Option Nat), k = 2 ∨ k = 3 → o.map (Lx.mkNum k) = some t → (t.kind = 2 ∨ t.kind = 3) ∧ t.text = sNil := by
    intro k o hk e
    cases o with
    | none => cases e
    | some v =>
      simp only [Option.map_some, Option.some.injEq] at e
      subst e
      exact ⟨hk, rfl⟩
  unfold numN Lx.numX at h
  split at h
  · exact hm 2 _ (.inl rfl) h
  · split at h
    · exact hm 2 _ (.inl rfl) h
    · split at h
      · exact hm 2 _ (.inl rfl) h
      · split at h
        · exact hm 3 _ (.inr rfl) h
        · cases h
theorem head_take {s : List UInt8} {n : Nat} (h : 1 ≤ n) : (s.take n).head? = s.head? := by
  cases n with
  | zero => omega
  | succ n => cases s <;> rfl
theorem bt_size (l : List UInt8) : (bt l).size = l.length := by simp [bt, ByteArray.size]
theorem one_tk {s : List UInt8} (hs : s ≠ []) {t : Tk} {n : Nat} (h : oneN s = .ok (t, n)) : TkS (s.length + 3) t := by
  have hb := Lx.oneN_bd s hs t n h
  unfold oneN at h
  dsimp only at h
  split at h
  · rename_i hc
    have h1 := Lx.runN_pos (p := isP) (s := s) (by unfold isP; rw [hc]; rfl) hs
    split at h
    · cases h
    · injection h with h
      injection h with h3 h4
      subst h3
      refine ⟨⟨fun _ => ?_, fun e => ?_, fun e => ?_, fun e => rfl⟩, ?_⟩
      · show isL ((bt (s.take (Lx.runN isP s))).data.toList.head?.getD 0) = true
        rw [show (bt (s.take (Lx.runN isP s))).data.toList = s.take (Lx.runN isP s) by simp [bt], head_take h1]
        exact hc
      · dsimp only at e; split at e <;> cases e
      · dsimp only at e; split at e <;> omega
      · show (bt _).size ≤ _
        rw [bt_size, List.length_take]; omega
  · rename_i hc
    split at h
    · split at h
      · cases h
      · rename_i t' hn
        injection h with h
        injection h with h3 h4
        subst h3
        obtain ⟨h5, h6⟩ := num_tk hn
        refine ⟨⟨fun e => by omega, fun e => by omega, fun _ => h6, fun e => by omega⟩, by rw [h6]; exact Nat.zero_le _⟩
    · split at h
      · split at h
        · cases h
        · injection h with h
          injection h with h3 h4
          subst h3
          refine ⟨⟨fun e => (by cases e), fun e => (by cases e), fun e => (by rcases e with e | e <;> cases e), fun e => rfl⟩, ?_⟩
          show (bt _).size ≤ _
          rw [bt_size, List.length_drop, List.length_take]; omega
      · split at h
        · cases h
        · rename_i h0
          injection h with h
          injection h with h3 h4
          subst h3
          unfold Lx.plainT
          split
          · exact ⟨⟨fun e => (by cases e), fun e => rfl, fun e => (by rcases e with e | e <;> cases e), fun e => rfl⟩, by show 1 ≤ _; omega⟩
          · split
            · exact ⟨⟨fun e => rfl, fun e => (by cases e), fun e => (by rcases e with e | e <;> cases e), fun e => rfl⟩, by show 3 ≤ _; omega⟩
            · split
              · exact ⟨⟨fun e => rfl, fun e => (by cases e), fun e => (by rcases e with e | e <;> cases e), fun e => rfl⟩, by show 3 ≤ _; omega⟩
              · refine ⟨⟨fun e => (by cases e), fun _ => ?_, fun e => (by rcases e with e | e <;> cases e), fun e => rfl⟩, ?_⟩
                · show isL ((bt (s.take (symN s))).data.toList.head?.getD 0) = false
                  rw [show (bt (s.take (symN s))).data.toList = s.take (symN s) by simp [bt], head_take (by omega)]
                  simpa using hc
                · show (bt _).size ≤ _
                  rw [bt_size, List.length_take]; omega
theorem scan_tk : ∀ (f i : Nat) (s : List UInt8) (m : Nat) (l : List Lx.Tok), s.length ≤ m → scanF f i s = .ok l → ∀ x ∈ l, TkS (m + 3) x.1 := by
  intro f
  induction f with
  | zero => intro i s m l hm h; cases h
  | succ f ih =>
    intro i s m l hm h
    unfold scanF at h
    split at h
    · cases h
      intro x hx
      simp only [List.mem_singleton] at hx
      subst hx
      exact tks_no _
    · rename_i hne
      have hd : ∀ n, (s.drop n).length ≤ m := fun n => by rw [List.length_drop]; omega
      split at h
      · cases h
      · exact ih _ _ _ _ (hd _) h
      · rename_i t n hi
        cases he : scanF f (i + n) (s.drop n) with
        | error k => rw [he] at h; cases h
        | ok l' =>
          rw [he] at h
          cases h
          intro x hx
          rcases List.mem_cons.1 hx with e | e
          · subst e
            show TkS (m + 3) t
            unfold item at hi
            split at hi
            · cases hi
            · split at hi
              · split at hi <;> cases hi
              · split at hi
                · cases hi
                · rename_i t' n' ho
                  injection hi with h1 h2
                  subst h1
                  have := one_tk hne ho
                  exact ⟨this.ok, Nat.le_trans this.size (by omega)⟩
          · exact ih _ _ _ _ (hd _) he x e

/-- What a token's place and text are. -/
structure TF (t : PT) : Prop where
  ok : OKTk t.1
  p1 : t.2.1.1 < 4294967296
  p2 : t.2.1.2 < 4294967296
  size : t.1.text.size ≤ 9223372036854775807
theorem tf_no : TF noPT := ⟨(tks_no 0).ok, by decide, by decide, by decide⟩
def FitRow (L : List PT) : Prop := ∀ i, TF (tk L i)
theorem row_fit (s : List UInt8) : FitRow (rowP s) := by
  intro i
  unfold tk
  cases h : (rowP s)[i]? with
  | none => exact tf_no
  | some t =>
    have hm := List.mem_of_getElem? h
    show TF t
    unfold rowP at hm
    cases hl : scanL s with
    | error e => rw [hl] at hm; cases hm
    | ok l =>
      rw [hl] at hm
      obtain ⟨x, hx, rfl⟩ := List.mem_map.1 hm
      unfold scanL at hl
      split at hl
      · cases hl
      · rename_i hlen
        have h1 := scan_tk _ _ _ _ _ (Nat.le_refl _) hl x (List.dropLast_subset _ hx)
        have h2 := at_is s (by omega) x.2.1
        exact ⟨h1.ok, by show (at_ s x.2.1).1 < _; omega, by show (at_ s x.2.1).2 < _; omega, by show x.1.text.size ≤ _; have := h1.size; omega⟩
theorem row_ok (s : List UInt8) : OKRow (rowP s) := fun i => (row_fit s i).ok

def fitT (x : T1) : Prop := (Fo.node x.1 x.2 .no).fits
def fitL (l : List T1) : Prop := (forest l).fits
theorem fit_mk {kind : Nat} {t : PT} {name : ByteArray} {n : Int} {l : List T1} (hk : kind < 256) (h : TF t) (hn : name.size ≤ 9223372036854775807) (hl : fitL l) : fitT (mk kind t.2.1 name n l) := ⟨hk, h.p1, h.p2, hn, hl, trivial⟩
theorem fitL_nil : fitL [] := trivial
theorem fitL_cons {x : T1} {l : List T1} (h : fitT x) (hl : fitL l) : fitL (x :: l) := ⟨h.1, h.2.1, h.2.2.1, h.2.2.2.1, h.2.2.2.2.1, hl⟩
theorem fitL_snoc {y : T1} (hy : fitT y) : ∀ {l : List T1}, fitL l → fitL (l ++ [y])
  | [], _ => fitL_cons hy fitL_nil
  | x :: l, h => by
    have h' : fitT x ∧ fitL l := ⟨⟨h.1, h.2.1, h.2.2.1, h.2.2.2.1, h.2.2.2.2.1, trivial⟩, h.2.2.2.2.2⟩
    exact fitL_cons h'.1 (fitL_snoc hy h'.2)
theorem fit_0 {kind : Nat} {t : PT} {name : ByteArray} {n : Int} (hk : kind < 256) (h : TF t) (hn : name.size ≤ 9223372036854775807) : fitT (mk kind t.2.1 name n []) := fit_mk hk h hn fitL_nil
theorem fit_1 {kind : Nat} {t : PT} {name : ByteArray} {n : Int} {x : T1} (hk : kind < 256) (h : TF t) (hn : name.size ≤ 9223372036854775807) (hx : fitT x) : fitT (mk kind t.2.1 name n [x]) := fit_mk hk h hn (fitL_cons hx fitL_nil)
theorem fit_2 {kind : Nat} {t : PT} {name : ByteArray} {n : Int} {x y : T1} (hk : kind < 256) (h : TF t) (hn : name.size ≤ 9223372036854775807) (hx : fitT x) (hy : fitT y) : fitT (mk kind t.2.1 name n [x, y]) := fit_mk hk h hn (fitL_cons hx (fitL_cons hy fitL_nil))
theorem nil_small : sNil.size ≤ 9223372036854775807 := by decide
def Ft {α : Type} (c : α → Prop) (p : Par α) : Prop := ∀ L i a j, FitRow L → p L i = .ok (a, j) → c a
section
variable {α β : Type} {c : α → Prop} {c' : β → Prop}
theorem ft_ret {a : α} (h : c a) : Ft c (retP a) := fun L i b j hL e => by cases e; exact h
theorem ft_fail : Ft c (failP (α := α)) := fun L i b j hL e => by cases e
theorem ft_bind {p : Par α} {q : α → Par β} (hp : Ft c p) (hq : ∀ a, c a → Ft c' (q a)) : Ft c' (bindP p q) := by
  intro L i b j hL e
  unfold bindP at e
  cases e1 : p L i with
  | error x => rw [e1] at e; cases e
  | ok r =>
    obtain ⟨a, j1⟩ := r
    rw [e1] at e
    exact hq a (hp L i a j1 hL e1) L j1 b j hL e
theorem ft_tok {t : PT → Bool} {A : PT → Par α} {B : Par α} (hA : ∀ x, TF x → t x = true → Ft c (A x)) (hB : Ft c B) : Ft c (tokP t A B) := by
  intro L i a j hL e
  unfold tokP at e
  split at e
  · rename_i ht; exact hA _ (hL i) ht L (i + 1) a j hL e
  · exact hB L i a j hL e
theorem ft_pos {q : PT → Par α} (h : ∀ x, TF x → Ft c (q x)) : Ft c (posP q) := fun L i a j hL e => h _ (hL i) L i a j hL e
end
theorem ft_name : Ft TF nameP := by
  rw [nameP_eq]
  exact ft_tok (fun x h _ => ft_ret h) ft_fail
theorem ft_needF {α : Type} {c : α → Prop} (s : ByteArray) {p : Par α} (h : Ft c p) : Ft c (needF s p) := ft_tok (fun _ _ _ => h) ft_fail
theorem ft_dotsF : ∀ (f : Nat) (x : T1), fitT x → Ft fitT (dotsF f x)
  | 0, x, h => ft_ret h
  | f + 1, x, h => ft_tok (fun t ht _ => ft_bind ft_name (fun a ha => ft_dotsF f _ (fit_1 (by decide) ht ha.size h))) (ft_ret h)
theorem ft_qualF (g : Nat) : Ft fitT (qualF g) := ft_bind ft_name (fun a ha => ft_dotsF g _ (fit_0 (by decide) ha ha.size))
section
variable {e : Par T1} (ge : Ft fitT e)
include ge
theorem ft_commasF : ∀ (f : Nat) (x : T1), fitT x → Ft fitT (commasF e f x)
  | 0, x, h => ft_ret h
  | f + 1, x, h => ft_tok (fun t ht _ => ft_bind ge (fun a ha => ft_commasF f _ (fit_2 (by decide) ht nil_small h ha))) (ft_ret h)
theorem ft_desF (g : Nat) : ∀ (f : Nat) (x : T1), fitT x → Ft fitT (desF e g f x)
  | 0, x, h => ft_ret h
  | f + 1, x, h => ft_tok (fun t ht _ => ft_bind ft_name (fun a ha => ft_desF g f _ (fit_1 (by decide) ht ha.size h)))
      (ft_tok (fun t ht _ => ft_desF g f _ (fit_1 (by decide) ht nil_small h))
      (ft_tok (fun t ht _ => ft_bind ge (fun a ha => ft_bind (ft_commasF ge g _ (fit_2 (by decide) ht nil_small h ha)) (fun z hz => ft_needF _ (ft_desF g f z hz)))) (ft_ret h)))
theorem ft_designF (g : Nat) : Ft fitT (designF e g) := ft_bind (ft_qualF g) (fun x hx => ft_desF ge g g x hx)
theorem ft_elemF : Ft fitT (elemF e) := ft_pos fun t ht => ft_bind ge (fun x hx => ft_tok (fun _ _ _ => ft_bind ge (fun y hy => ft_ret (fit_2 (by decide) ht nil_small hx hy))) (ft_ret hx))
theorem ft_manyRF : ∀ (f : Nat) (l : List T1), fitL l → Ft fitL (manyRF e f l)
  | 0, x, h => ft_ret h
  | f + 1, l, h => ft_tok (fun t _ _ => ft_bind ge (fun a ha => ft_manyRF f _ (fitL_snoc ha h))) (ft_ret h)
theorem ft_manyF (g : Nat) : Ft fitL (manyF e g) := ft_bind ge (fun a ha => ft_manyRF ge g [a] (fitL_cons ha fitL_nil))
theorem ft_betweenF (g : Nat) (close : ByteArray) : Ft fitL (betweenF e g close) :=
  ft_tok (fun _ _ _ => ft_ret fitL_nil) (ft_bind (ft_manyF ge g) (fun l hl => ft_needF _ (ft_ret hl)))
end
theorem ft_bins {su : Par T1} (gs : Ft fitT su) (k : Nat) : ∀ (f : Nat) (x : T1), fitT x → Ft fitT (binsF su k f x)
  | 0, x, h => ft_ret h
  | f + 1, x, h => ft_tok (fun t ht _ => ft_bind gs (fun a ha => by
      split
      · exact ft_ret (fit_2 (by decide) ht ht.size h ha)
      · exact ft_bins gs k f _ (fit_2 (by decide) ht ht.size h ha))) (ft_ret h)
theorem ft_lev {fac : Par T1} (gf : Ft fitT fac) (g : Nat) : ∀ d, Ft fitT (levF fac g d)
  | 0 => gf
  | d + 1 => ft_tok (fun t ht _ => ft_bind (ft_lev gf g d) (fun x hx => ft_bins (ft_lev gf g d) _ g _ (fit_1 (by decide) ht ht.size hx)))
      (ft_bind (ft_lev gf g d) (fun x hx => ft_bins (ft_lev gf g d) _ g _ hx))
theorem fit_zero : fitT zeroT := ⟨by decide, by decide, by decide, by decide, trivial, trivial⟩
theorem ft_fact (g : Nat) : ∀ f, Ft fitT (factF g f)
  | 0 => ft_fail
  | f + 1 => by
    have h := ft_fact g f
    have e := ft_lev h g 3
    have em := ft_elemF e
    refine ft_tok (fun t ht hl => ft_ret (fit_0 ?_ ht ht.size)) (ft_tok (fun _ _ _ => ft_bind e (fun x hx => ft_needF _ (ft_ret hx)))
      (ft_tok (fun t ht _ => ft_bind h (fun x hx => ft_ret (fit_1 (by decide) ht (by decide) hx)))
      (ft_tok (fun t ht _ => ft_bind (ft_betweenF em g _) (fun l hl => ft_ret (fit_mk (by decide) ht nil_small (fitL_cons fit_zero hl))))
      (ft_pos fun t0 ht0 => ft_bind (ft_designF e g) (fun x hx => ?_)))))
    · unfold litT at hl
      have := of_decide_eq_true hl
      omega
    · exact ft_tok (fun _ _ _ => ft_bind (ft_betweenF em g _) (fun l hl => ft_ret (fit_mk (by decide) ht0 nil_small (fitL_cons hx hl))))
        (ft_tok (fun tj htj _ => ft_bind (ft_betweenF e g _) (fun l hl => ft_ret (fit_mk (by decide) htj nil_small (fitL_cons hx hl)))) (ft_ret hx))
theorem ft_expr (g : Nat) : Ft fitT (exprF g) := ft_lev (ft_fact g g) g 3
theorem ft_labels (g : Nat) : Ft fitT (labelsF g) := ft_pos fun t ht => ft_bind (ft_manyF (ft_elemF (ft_expr g)) g) fun l hl => ft_ret (fit_mk (by decide) ht nil_small hl)
theorem grow_labels (g : Nat) : Grow cntT 1 (labelsF g) :=
  grow_pos fun t => grow_bind (m := 1) (grow_manyF (grow_elemF (grow_lev (grow_fact g g) g 3)) g) (fun l => grow_ret (by rw [cnt_mk]; omega)) (by omega)
theorem grow_exprF (g : Nat) : Grow cntT 0 (exprF g) := grow_lev (grow_fact g g) g 3
/-- What is read at a place of a row fits, and has no more nodes than tokens were passed, and one. -/
theorem doP_fit {L : List PT} {i k : Nat} {x : T1} {j : Nat} (hL : FitRow L) (h : doP L i k = .ok (x, j)) : fitT x ∧ cntT x ≤ j + 1 ∧ j ≤ L.length := by
  have hg : L.length < L.length + 1 := Nat.lt_succ_self _
  unfold doP at h
  split at h
  · have h2 := exprP_ok _ _ _ h
    rw [expr_fuel hg] at h
    have h3 := grow_exprF _ L i x j h
    exact ⟨ft_expr _ L i x j hL h, by omega, h2.2⟩
  · have h2 := designP_ok exprP_ok _ _ _ h
    rw [designE_fuel hg] at h
    have h3 := grow_designF (grow_exprF (L.length + 1)) (L.length + 1) L i x j h
    exact ⟨ft_designF (ft_expr _) _ L i x j hL h, by omega, h2.2⟩
  · have h2 := qualP_ok _ _ _ h
    rw [qual_fuel hg] at h
    have h3 := grow_qualF (L.length + 1) L i x j h
    exact ⟨ft_qualF _ L i x j hL h, by omega, h2.2⟩
  · have h2 : j ≤ L.length := by
      have h9 := h
      unfold labelsP at h9
      cases hm : manyP L (elemP L (exprP L)) i with
      | error e => rw [hm] at h9; cases h9
      | ok r =>
        obtain ⟨l, j'⟩ := r
        rw [hm] at h9
        cases h9
        exact (manyP_ok (elemP_ok exprP_ok) hm).2
    rw [labels_fuel hg] at h
    have h3 := grow_labels _ L i x j h
    exact ⟨ft_labels _ L i x j hL h, by omega, h2⟩
theorem exact_self : ∀ f : Fo, f.exact f = true
  | .no => rfl
  | .node d k r => by simp [Fo.exact, exact_self k, exact_self r]
end Go.Proofs.Ytnboenmkngjhmaa.Ex

namespace Go.Proofs.Ytnboenmkngjhmaa.Ex
open Go.RowKit
open Tr (Nd Fo RepS RepN Rep cellsN)
open Lx (Tk noTk Blk run_store_complexL TokAt)
open Fl
attribute [local go_sem] run_store_complexL run_field1 run_field3

section
variable {w0 w : World} {br c j : Nat} {A : Option Addr} {L : List PT}
set_option maxRecDepth 100000 in
set_option maxHeartbeats 6400000 in
theorem told_ok (h : QInv w0 w br A c L j false) (pa : Option Addr) : Calls Try.prog 29 #[.pointer (some ⟨br, 0, none⟩), .pointer pa] w fun e w' => e = .returned (.tuple #[.pointer pa, .int .i64 j, .int .i64 0]) ∧ Below w.heap.size w w' := by
  obtain ⟨m1, f1, m2, f2, hlt⟩ := h.at_
  have HB := Lib.hid (Below.refl w.heap.size w)
  clear h
  go_enter Try.func29, Try.ntmps29
  go_wp2
  go_quiet (fail)
  go_wp2
  go_ret3
  exact ⟨rfl, Lx.below_drewN HB.out _⟩
set_option maxRecDepth 100000 in
set_option maxHeartbeats 6400000 in
theorem told_bad (h : QInv w0 w br A c L j true) (pa : Option Addr) : Calls Try.prog 29 #[.pointer (some ⟨br, 0, none⟩), .pointer pa] w fun e w' => e = .returned (.tuple #[.pointer none, .int .i64 j, .int .i64 60]) ∧ Below w.heap.size w w' := by
  obtain ⟨m1, f1, m2, f2, hlt⟩ := h.at_
  have HB := Lib.hid (Below.refl w.heap.size w)
  clear h
  go_enter Try.func29, Try.ntmps29
  go_wp2
  go_quiet (fail)
  go_wp2
  go_ret3
  exact ⟨rfl, Lx.below_drewN HB.out _⟩
end
set_option maxRecDepth 100000 in
set_option maxHeartbeats 6400000 in
theorem rdo_0 {w : World} {A : Option Addr} {L : List PT} (h : RowAt w A L) (ok : OKRow L) (c : Nat) {i : Nat} (hi : i ≤ 60000) : Calls Try.prog 16 #[.slice A L.length c, .int .i64 i, .int .i64 0] w (ParR w (exprP L i)) := by
  have x0 : (0 : Int) ≤ (i : Int) := by omega
  have x1 : ¬ (i : Int) < 0 := by omega
  have hb0 : Below w.heap.size w (w.alloc (.cells #[.slice A L.length c, .int .i64 i, .bool false] 58)) := (Below.refl _ _).alloc (Nat.le_refl _) _
  have hsz : (w.alloc (.cells #[.slice A L.length c, .int .i64 i, .bool false] 58)).heap.size = w.heap.size + 1 := World.size_alloc _ _
  have hq : QInv (w.alloc (.cells #[.slice A L.length c, .int .i64 i, .bool false] 58)) (w.alloc (.cells #[.slice A L.length c, .int .i64 i, .bool false] 58)) w.heap.size A c L i false := ⟨Lx.Blk.new _ _ _, ⟨rfl, rfl, rfl, Nat.le_refl _, fun _ _ _ => rfl⟩⟩
  have ht : Toks (w.alloc (.cells #[.slice A L.length c, .int .i64 i, .bool false] 58)) w.heap.size A L := ⟨(h.reads.below hb0).more hb0.size, by omega, fun ad e => by have := h.low ad e; omega, h.len⟩
  have d1 := rexpr_all (c := c) ht ok i (Nat.zero_le _) hi _ hq
  have HB0 := Lib.hid hb0
  clear h ok hb0 hq ht
  generalize exprP L i = r at *
  cases r with
  | error k9 =>
    have D1 := Lib.hid d1
    clear d1
    go_enter Try.func16, Try.ntmps16
    go_wp2_with fail
    ((with_reducible refine D1.out.mono ?_); rintro e w1 ⟨p, rfl, hp, hg⟩)
    have TD := Lib.hid (told_bad hp p)
    have HB := Lib.hid (HB0.out.grown hg HB0.out.size (fun k e => by injection e with e; omega))
    clear hp hg
    go_wp2_with fail
    ((with_reducible refine TD.out.mono ?_); rintro e w2 ⟨rfl, hb⟩)
    have HB2 := Lib.hid (HB.out.trans (hb.mono HB.out.size))
    clear hb
    go_wp2
    go_ret3
    exact ⟨rfl, HB2.out⟩
  | ok x =>
    obtain ⟨x, j⟩ := x
    have D1 := Lib.hid d1
    clear d1
    go_enter Try.func16, Try.ntmps16
    go_wp2_with fail
    ((with_reducible refine D1.out.mono ?_); rintro e w1 ⟨b, rfl, hp, hg, hr⟩)
    have TD := Lib.hid (told_ok hp (some ⟨b, 0, none⟩))
    have HB := Lib.hid (HB0.out.grown hg HB0.out.size (fun k e => by injection e with e; omega))
    have HR := Lib.hid (hr.more (S' := fun y => w.heap.size ≤ y) fun y hy _ => by omega)
    clear hp hg hr
    go_wp2_with fail
    ((with_reducible refine TD.out.mono ?_); rintro e w2 ⟨rfl, hb⟩)
    have HB2 := Lib.hid (HB.out.trans (hb.mono HB.out.size))
    have HR2 := Lib.hid (HR.out.below hb)
    clear hb
    go_wp2
    go_ret3
    exact ⟨b, rfl, HR2.out, HB2.out⟩
set_option maxRecDepth 100000 in
set_option maxHeartbeats 6400000 in
theorem rdo_1 {w : World} {A : Option Addr} {L : List PT} (h : RowAt w A L) (ok : OKRow L) (c : Nat) {i : Nat} (hi : i ≤ 60000) : Calls Try.prog 16 #[.slice A L.length c, .int .i64 i, .int .i64 1] w (ParR w (designP L (exprP L) i)) := by
  have x0 : (0 : Int) ≤ (i : Int) := by omega
  have x1 : ¬ (i : Int) < 0 := by omega
  have hb0 : Below w.heap.size w (w.alloc (.cells #[.slice A L.length c, .int .i64 i, .bool false] 58)) := (Below.refl _ _).alloc (Nat.le_refl _) _
  have hsz : (w.alloc (.cells #[.slice A L.length c, .int .i64 i, .bool false] 58)).heap.size = w.heap.size + 1 := World.size_alloc _ _
  have hq : QInv (w.alloc (.cells #[.slice A L.length c, .int .i64 i, .bool false] 58)) (w.alloc (.cells #[.slice A L.length c, .int .i64 i, .bool false] 58)) w.heap.size A c L i false := ⟨Lx.Blk.new _ _ _, ⟨rfl, rfl, rfl, Nat.le_refl _, fun _ _ _ => rfl⟩⟩
  have ht : Toks (w.alloc (.cells #[.slice A L.length c, .int .i64 i, .bool false] 58)) w.heap.size A L := ⟨(h.reads.below hb0).more hb0.size, by omega, fun ad e => by have := h.low ad e; omega, h.len⟩
  have d1 := rdesign_all (c := c) ht ok i (Nat.zero_le _) hi _ hq
  have HB0 := Lib.hid hb0
  clear h ok hb0 hq ht
  generalize designP L (exprP L) i = r at *
  cases r with
  | error k9 =>
    have D1 := Lib.hid d1
    clear d1
    go_enter Try.func16, Try.ntmps16
    go_wp2_with fail
    ((with_reducible refine D1.out.mono ?_); rintro e w1 ⟨p, rfl, hp, hg⟩)
    have TD := Lib.hid (told_bad hp p)
    have HB := Lib.hid (HB0.out.grown hg HB0.out.size (fun k e => by injection e with e; omega))
    clear hp hg
    go_wp2_with fail
    ((with_reducible refine TD.out.mono ?_); rintro e w2 ⟨rfl, hb⟩)
    have HB2 := Lib.hid (HB.out.trans (hb.mono HB.out.size))
    clear hb
    go_wp2
    go_ret3
    exact ⟨rfl, HB2.out⟩
  | ok x =>
    obtain ⟨x, j⟩ := x
    have D1 := Lib.hid d1
    clear d1
    go_enter Try.func16, Try.ntmps16
    go_wp2_with fail
    ((with_reducible refine D1.out.mono ?_); rintro e w1 ⟨b, rfl, hp, hg, hr⟩)
    have TD := Lib.hid (told_ok hp (some ⟨b, 0, none⟩))
    have HB := Lib.hid (HB0.out.grown hg HB0.out.size (fun k e => by injection e with e; omega))
    have HR := Lib.hid (hr.more (S' := fun y => w.heap.size ≤ y) fun y hy _ => by omega)
    clear hp hg hr
    go_wp2_with fail
    ((with_reducible refine TD.out.mono ?_); rintro e w2 ⟨rfl, hb⟩)
    have HB2 := Lib.hid (HB.out.trans (hb.mono HB.out.size))
    have HR2 := Lib.hid (HR.out.below hb)
    clear hb
    go_wp2
    go_ret3
    exact ⟨b, rfl, HR2.out, HB2.out⟩
set_option maxRecDepth 100000 in
set_option maxHeartbeats 6400000 in
theorem rdo_2 {w : World} {A : Option Addr} {L : List PT} (h : RowAt w A L) (ok : OKRow L) (c : Nat) {i : Nat} (hi : i ≤ 60000) : Calls Try.prog 16 #[.slice A L.length c, .int .i64 i, .int .i64 2] w (ParR w (qualP L i)) := by
  have x0 : (0 : Int) ≤ (i : Int) := by omega
  have x1 : ¬ (i : Int) < 0 := by omega
  have hb0 : Below w.heap.size w (w.alloc (.cells #[.slice A L.length c, .int .i64 i, .bool false] 58)) := (Below.refl _ _).alloc (Nat.le_refl _) _
  have hsz : (w.alloc (.cells #[.slice A L.length c, .int .i64 i, .bool false] 58)).heap.size = w.heap.size + 1 := World.size_alloc _ _
  have hq : QInv (w.alloc (.cells #[.slice A L.length c, .int .i64 i, .bool false] 58)) (w.alloc (.cells #[.slice A L.length c, .int .i64 i, .bool false] 58)) w.heap.size A c L i false := ⟨Lx.Blk.new _ _ _, ⟨rfl, rfl, rfl, Nat.le_refl _, fun _ _ _ => rfl⟩⟩
  have ht : Toks (w.alloc (.cells #[.slice A L.length c, .int .i64 i, .bool false] 58)) w.heap.size A L := ⟨(h.reads.below hb0).more hb0.size, by omega, fun ad e => by have := h.low ad e; omega, h.len⟩
  have d1 := rqual_all (c := c) ht ok i (Nat.zero_le _) hi _ hq
  have HB0 := Lib.hid hb0
  clear h ok hb0 hq ht
  generalize qualP L i = r at *
  cases r with
  | error k9 =>
    have D1 := Lib.hid d1
    clear d1
    go_enter Try.func16, Try.ntmps16
    go_wp2_with fail
    ((with_reducible refine D1.out.mono ?_); rintro e w1 ⟨p, rfl, hp, hg⟩)
    have TD := Lib.hid (told_bad hp p)
    have HB := Lib.hid (HB0.out.grown hg HB0.out.size (fun k e => by injection e with e; omega))
    clear hp hg
    go_wp2_with fail
    ((with_reducible refine TD.out.mono ?_); rintro e w2 ⟨rfl, hb⟩)
    have HB2 := Lib.hid (HB.out.trans (hb.mono HB.out.size))
    clear hb
    go_wp2
    go_ret3
    exact ⟨rfl, HB2.out⟩
  | ok x =>
    obtain ⟨x, j⟩ := x
    have D1 := Lib.hid d1
    clear d1
    go_enter Try.func16, Try.ntmps16
    go_wp2_with fail
    ((with_reducible refine D1.out.mono ?_); rintro e w1 ⟨b, rfl, hp, hg, hr⟩)
    have TD := Lib.hid (told_ok hp (some ⟨b, 0, none⟩))
    have HB := Lib.hid (HB0.out.grown hg HB0.out.size (fun k e => by injection e with e; omega))
    have HR := Lib.hid (hr.more (S' := fun y => w.heap.size ≤ y) fun y hy _ => by omega)
    clear hp hg hr
    go_wp2_with fail
    ((with_reducible refine TD.out.mono ?_); rintro e w2 ⟨rfl, hb⟩)
    have HB2 := Lib.hid (HB.out.trans (hb.mono HB.out.size))
    have HR2 := Lib.hid (HR.out.below hb)
    clear hb
    go_wp2
    go_ret3
    exact ⟨b, rfl, HR2.out, HB2.out⟩
set_option maxRecDepth 100000 in
set_option maxHeartbeats 6400000 in
theorem rdo_3 {w : World} {A : Option Addr} {L : List PT} (h : RowAt w A L) (ok : OKRow L) (c : Nat) {i : Nat} (hi : i ≤ 60000) : Calls Try.prog 16 #[.slice A L.length c, .int .i64 i, .int .i64 3] w (ParR w (labelsP L i)) := by
  have x0 : (0 : Int) ≤ (i : Int) := by omega
  have x1 : ¬ (i : Int) < 0 := by omega
  have hb0 : Below w.heap.size w (w.alloc (.cells #[.slice A L.length c, .int .i64 i, .bool false] 58)) := (Below.refl _ _).alloc (Nat.le_refl _) _
  have hsz : (w.alloc (.cells #[.slice A L.length c, .int .i64 i, .bool false] 58)).heap.size = w.heap.size + 1 := World.size_alloc _ _
  have hq : QInv (w.alloc (.cells #[.slice A L.length c, .int .i64 i, .bool false] 58)) (w.alloc (.cells #[.slice A L.length c, .int .i64 i, .bool false] 58)) w.heap.size A c L i false := ⟨Lx.Blk.new _ _ _, ⟨rfl, rfl, rfl, Nat.le_refl _, fun _ _ _ => rfl⟩⟩
  have ht : Toks (w.alloc (.cells #[.slice A L.length c, .int .i64 i, .bool false] 58)) w.heap.size A L := ⟨(h.reads.below hb0).more hb0.size, by omega, fun ad e => by have := h.low ad e; omega, h.len⟩
  have d1 := rlabels_all (c := c) ht ok i (Nat.zero_le _) hi _ hq
  have HB0 := Lib.hid hb0
  clear h ok hb0 hq ht
  generalize labelsP L i = r at *
  cases r with
  | error k9 =>
    have D1 := Lib.hid d1
    clear d1
    go_enter Try.func16, Try.ntmps16
    go_wp2_with fail
    ((with_reducible refine D1.out.mono ?_); rintro e w1 ⟨p, rfl, hp, hg⟩)
    have TD := Lib.hid (told_bad hp p)
    have HB := Lib.hid (HB0.out.grown hg HB0.out.size (fun k e => by injection e with e; omega))
    clear hp hg
    go_wp2_with fail
    ((with_reducible refine TD.out.mono ?_); rintro e w2 ⟨rfl, hb⟩)
    have HB2 := Lib.hid (HB.out.trans (hb.mono HB.out.size))
    clear hb
    go_wp2
    go_ret3
    exact ⟨rfl, HB2.out⟩
  | ok x =>
    obtain ⟨x, j⟩ := x
    have D1 := Lib.hid d1
    clear d1
    go_enter Try.func16, Try.ntmps16
    go_wp2_with fail
    ((with_reducible refine D1.out.mono ?_); rintro e w1 ⟨b, rfl, hp, hg, hr⟩)
    have TD := Lib.hid (told_ok hp (some ⟨b, 0, none⟩))
    have HB := Lib.hid (HB0.out.grown hg HB0.out.size (fun k e => by injection e with e; omega))
    have HR := Lib.hid (hr.more (S' := fun y => w.heap.size ≤ y) fun y hy _ => by omega)
    clear hp hg hr
    go_wp2_with fail
    ((with_reducible refine TD.out.mono ?_); rintro e w2 ⟨rfl, hb⟩)
    have HB2 := Lib.hid (HB.out.trans (hb.mono HB.out.size))
    have HR2 := Lib.hid (HR.out.below hb)
    clear hb
    go_wp2
    go_ret3
    exact ⟨b, rfl, HR2.out, HB2.out⟩
theorem rdo_any {w : World} {A : Option Addr} {L : List PT} (h : RowAt w A L) (ok : OKRow L) (c : Nat) {i : Nat} (hi : i ≤ 60000) (k : Nat) (hk : k < 4) : Calls Try.prog 16 #[.slice A L.length c, .int .i64 i, .int .i64 k] w (ParR w (doP L i k)) := by
  obtain rfl | rfl | rfl | rfl : k = 0 ∨ k = 1 ∨ k = 2 ∨ k = 3 := by omega
  · exact rdo_0 h ok c hi
  · exact rdo_1 h ok c hi
  · exact rdo_2 h ok c hi
  · exact rdo_3 h ok c hi
set_option maxRecDepth 100000 in
set_option maxHeartbeats 6400000 in
theorem rdo_neg (v : Value) (i : Int) (hi : i < 0) (u : Value) (w : World) : Calls Try.prog 16 #[v, .int .i64 i, u] w (ParR w (.error 0)) := by
  have HB := Lib.hid (Below.refl w.heap.size w)
  go_enter Try.func16, Try.ntmps16
  go_wp2
  go_ret3
  exact ⟨rfl, HB.out⟩
set_option maxRecDepth 100000 in
set_option maxHeartbeats 6400000 in
theorem neg_E (A : Option Addr) (m c : Nat) (i : Int) (hi : i < 0) (w : World) : Calls Try.prog 11 #[.slice A m c, .int .i64 i] w (ParR w (.error 0)) := by
  have P := Lib.hid (fun v => parse_neg A m c i hi v w)
  go_enter Try.func11, Try.ntmps11
  go_wp2_with fail
  ((with_reducible refine (P.out _).mono ?_); rintro e w1 ⟨rfl, hb⟩)
  have HB := Lib.hid hb
  clear hb
  go_wp2
  go_ret3
  exact ⟨rfl, HB.out⟩
set_option maxRecDepth 100000 in
set_option maxHeartbeats 6400000 in
theorem neg_D (A : Option Addr) (m c : Nat) (i : Int) (hi : i < 0) (w : World) : Calls Try.prog 18 #[.slice A m c, .int .i64 i] w (ParR w (.error 0)) := by
  have P := Lib.hid (fun v => parse_neg A m c i hi v w)
  go_enter Try.func18, Try.ntmps18
  go_wp2_with fail
  ((with_reducible refine (P.out _).mono ?_); rintro e w1 ⟨rfl, hb⟩)
  have HB := Lib.hid hb
  clear hb
  go_wp2
  go_ret3
  exact ⟨rfl, HB.out⟩
set_option maxRecDepth 100000 in
set_option maxHeartbeats 6400000 in
theorem neg_Q (A : Option Addr) (m c : Nat) (i : Int) (hi : i < 0) (w : World) : Calls Try.prog 23 #[.slice A m c, .int .i64 i] w (ParR w (.error 0)) := by
  have P := Lib.hid (fun v => parse_neg A m c i hi v w)
  go_enter Try.func23, Try.ntmps23
  go_wp2_with fail
  ((with_reducible refine (P.out _).mono ?_); rintro e w1 ⟨rfl, hb⟩)
  have HB := Lib.hid hb
  clear hb
  go_wp2
  go_ret3
  exact ⟨rfl, HB.out⟩
set_option maxRecDepth 100000 in
set_option maxHeartbeats 6400000 in
theorem neg_L (A : Option Addr) (m c : Nat) (i : Int) (hi : i < 0) (w : World) : Calls Try.prog 24 #[.slice A m c, .int .i64 i] w (ParR w (.error 0)) := by
  have P := Lib.hid (fun v => parse_neg A m c i hi v w)
  go_enter Try.func24, Try.ntmps24
  go_wp2_with fail
  ((with_reducible refine (P.out _).mono ?_); rintro e w1 ⟨rfl, hb⟩)
  have HB := Lib.hid hb
  clear hb
  go_wp2
  go_ret3
  exact ⟨rfl, HB.out⟩
set_option maxRecDepth 100000 in
set_option maxHeartbeats 6400000 in
theorem does_neg (A : Option Addr) (m c : Nat) (i : Int) (hi : i < 0) (k : Nat) (hk : k < 4) (w : World) : Calls Try.prog 15 #[.slice A m c, .int .i64 i, .int .i64 k] w (ParR w (.error 0)) := by
  obtain rfl | rfl | rfl | rfl : k = 0 ∨ k = 1 ∨ k = 2 ∨ k = 3 := by omega
  · have D1 := Lib.hid (neg_E A m c i hi w)
    go_enter Try.func15, Try.ntmps15
    go_wp2_with fail
    ((with_reducible refine D1.out.mono ?_); rintro e w1 ⟨rfl, hb⟩)
    have HB := Lib.hid hb
    clear hb
    go_wp2
    go_ret3
    exact ⟨rfl, HB.out⟩
  · have D1 := Lib.hid (neg_D A m c i hi w)
    go_enter Try.func15, Try.ntmps15
    go_wp2_with fail
    ((with_reducible refine D1.out.mono ?_); rintro e w1 ⟨rfl, hb⟩)
    have HB := Lib.hid hb
    clear hb
    go_wp2
    go_ret3
    exact ⟨rfl, HB.out⟩
  · have D1 := Lib.hid (neg_Q A m c i hi w)
    go_enter Try.func15, Try.ntmps15
    go_wp2_with fail
    ((with_reducible refine D1.out.mono ?_); rintro e w1 ⟨rfl, hb⟩)
    have HB := Lib.hid hb
    clear hb
    go_wp2
    go_ret3
    exact ⟨rfl, HB.out⟩
  · have D1 := Lib.hid (neg_L A m c i hi w)
    go_enter Try.func15, Try.ntmps15
    go_wp2_with fail
    ((with_reducible refine D1.out.mono ?_); rintro e w1 ⟨rfl, hb⟩)
    have HB := Lib.hid hb
    clear hb
    go_wp2
    go_ret3
    exact ⟨rfl, HB.out⟩
end Go.Proofs.Ytnboenmkngjhmaa.Ex

namespace Go.Proofs.Ytnboenmkngjhmaa.Ex
open Go.RowKit
open Tr (Nd Fo RepS RepN Rep cellsN)
open Lx (Tk noTk Blk run_store_complexL TokAt)
open Fl
attribute [local go_sem] run_store_complexL run_field1 run_field3

set_option maxRecDepth 100000 in
set_option maxHeartbeats 6400000 in
theorem same_nil (w : World) : Calls Try.prog 12 #[.pointer none, .pointer none] w fun e w' => e = .returned (.bool true) ∧ w = w' := by
  go_enter Try.func12, Try.ntmps12
  go_wp2
  go_ret
  exact ⟨rfl, rfl⟩
set_option maxRecDepth 100000 in
set_option maxHeartbeats 6400000 in
theorem exact_nil (w : World) : Calls Try.prog 17 #[.pointer none, .pointer none] w fun e w' => e = .returned (.bool true) ∧ w = w' := by
  have S := Lib.hid (same_nil w)
  go_enter Try.func17, Try.ntmps17
  go_wp2_with fail
  ((with_reducible refine S.out.mono ?_); rintro e w1 ⟨rfl, rfl⟩)
  go_wp2
  go_ret
  exact ⟨rfl, rfl⟩
theorem exact_at {w : World} {x : T1} {b b' : Nat} {S S' : Nat → Prop} (hx : RepS S w (.node x.1 x.2 .no) [.pointer (some ⟨b, 0, none⟩)]) (hy : RepS S' w (.node x.1 x.2 .no) [.pointer (some ⟨b', 0, none⟩)]) (hf : fitT x) (hc : cntT x ≤ 1000000) :
    Calls Try.prog 17 #[.pointer (some ⟨b, 0, none⟩), .pointer (some ⟨b', 0, none⟩)] w fun e w' => e = .returned (.bool true) ∧ ∃ m, w' = w.drewN m := by
  have := Tr.exact_any _ x.1 x.2 x.1 x.2 _ _ w (Nat.le_refl _) hc hf hf hx.rep hy.rep
  rw [exact_self] at this
  exact this
set_option maxRecDepth 100000 in
set_option maxHeartbeats 6400000 in
theorem reads_walk (s : ByteArray) (a1 a2 : Int) (w : World) (w0 : s.size ≤ 9223372036854775807) (h1 : -9223372036854775808 ≤ a1 ∧ a1 ≤ 9223372036854775807) (h2 : 0 ≤ a2 ∧ a2 ≤ 255) :
    Calls Try.prog 6 #[.string s, .int .i64 a1, .int .u8 a2] w fun e w' => e = .returned (.bool true) ∧ Below w.heap.size w w' := by
  have HV := heavy_any s w
  by_cases hh : 2048 < s.size ∨ 1024 < a1
  · have HV := Lib.hid HV
    have WK := Lib.hid (works_any w)
    by_cases hh2 : 2048 < s.size
    · have HV := HV.out
      rw [decide_eq_true hh2] at HV
      have HV := Lib.hid HV
      clear hh hh2
      go_enter Try.func6, Try.ntmps6
      go_wp2_with fail
      ((with_reducible refine HV.out.mono ?_); rintro e w1 ⟨rfl, rfl⟩)
      go_wp2_with fail
      ((with_reducible refine WK.out.mono ?_); rintro e w1 ⟨rfl, hb⟩)
      go_wp2
      go_ret
      exact ⟨rfl, hb⟩
    · have hh3 : 1024 < a1 := hh.resolve_left hh2
      have HV := HV.out
      rw [decide_eq_false hh2] at HV
      have HV := Lib.hid HV
      clear hh hh2
      go_enter Try.func6, Try.ntmps6
      go_wp2_with fail
      ((with_reducible refine HV.out.mono ?_); rintro e w1 ⟨rfl, rfl⟩)
      go_wp2_with fail
      ((with_reducible refine WK.out.mono ?_); rintro e w1 ⟨rfl, hb⟩)
      go_wp2
      go_ret
      exact ⟨rfl, hb⟩
  · have hh1 : ¬ 2048 < s.size := fun h => hh (.inl h)
    have hh2 : ¬ 1024 < a1 := fun h => hh (.inr h)
    rw [decide_eq_false hh1] at HV
    have HV := Lib.hid HV
    have D0 := row_any s (by omega) w
    have x1 : 0 ≤ a2 := h2.1
    have x2 : a2 ≤ 255 := h2.2
    have x3 : 0 ≤ a2 % 4 := by omega
    have x4 : a2 % 4 ≤ 3 := by omega
    obtain ⟨k, hk⟩ : ∃ k : Nat, (a2 % 4) = (k : Int) := ⟨(a2 % 4).toNat, by omega⟩
    have hk4 : k < 4 := by omega
    have hL := rowP_len s.data.toList
    have HFR := Lib.hid (row_fit s.data.toList)
    generalize rowP s.data.toList = L at *
    have D0 := Lib.hid D0
    have HK := Lib.hid hk
    clear hk h2 hh
    by_cases hn : a1 < 0
    · go_enter Try.func6, Try.ntmps6
      go_wp2_with fail
      ((with_reducible refine HV.out.mono ?_); rintro e w1 ⟨rfl, rfl⟩)
      go_wp2_with fail
      ((with_reducible refine D0.out.mono ?_); rintro e w1 ⟨A, c, rfl, hc, ha, hb⟩)
      have HB := Lib.hid hb
      have d1 := does_neg A L.length c a1 hn k hk4 w1
      rw [← HK.out] at d1
      have D1 := Lib.hid d1
      clear hb ha D0 d1
      go_wp2_with fail
      ((with_reducible refine D1.out.mono ?_); rintro e w2 ⟨rfl, hb⟩)
      have HB := Lib.hid (HB.out.trans (hb.mono HB.out.size))
      have D2 := Lib.hid (rdo_neg (.slice A L.length c) a1 hn (.int .i64 (a2 % 4)) w2)
      clear hb D1
      go_wp2_with fail
      ((with_reducible refine D2.out.mono ?_); rintro e w3 ⟨rfl, hb⟩)
      have HB := Lib.hid (HB.out.trans (hb.mono HB.out.size))
      clear hb D2
      have EXA := Lib.hid (exact_nil w3)
      go_wp2_with fail
      ((with_reducible refine EXA.out.mono ?_); rintro e w4 ⟨rfl, rfl⟩)
      have WK := Lib.hid (works_any w3)
      clear EXA
      go_wp2_with fail
      ((with_reducible refine WK.out.mono ?_); rintro e w9 ⟨rfl, hb⟩)
      have HB := Lib.hid (HB.out.trans (hb.mono HB.out.size))
      clear hb WK
      go_wp2
      go_ret
      exact ⟨rfl, HB.out⟩
    · obtain ⟨i, rfl⟩ : ∃ i : Nat, a1 = (i : Int) := ⟨a1.toNat, by omega⟩
      have hi : i ≤ 1024 := by omega
      go_enter Try.func6, Try.ntmps6
      go_wp2_with fail
      ((with_reducible refine HV.out.mono ?_); rintro e w1 ⟨rfl, rfl⟩)
      go_wp2_with fail
      ((with_reducible refine D0.out.mono ?_); rintro e w1 ⟨A, c, rfl, hc, ha, hb⟩)
      have HB := Lib.hid hb
      have HA := Lib.hid ha
      have d1 := does_any ha c (i := i) (by omega) k hk4
      clear hb ha D0
      cases hx : doP L i k with
      | error n =>
        rw [hx, ← HK.out] at d1
        have D1 := Lib.hid d1
        clear d1
        go_wp2_with fail
        ((with_reducible refine D1.out.mono ?_); rintro e w2 ⟨rfl, hb⟩)
        have HB := Lib.hid (HB.out.trans (hb.mono HB.out.size))
        have d2 := rdo_any (HA.out.below hb) (fun j => (HFR.out j).ok) c (i := i) (by omega) k hk4
        rw [hx, ← HK.out] at d2
        have D2 := Lib.hid d2
        clear hb D1 d2 hx
        go_wp2_with fail
        ((with_reducible refine D2.out.mono ?_); rintro e w3 ⟨rfl, hb⟩)
        have HB := Lib.hid (HB.out.trans (hb.mono HB.out.size))
        clear hb D2
        have EXA := Lib.hid (exact_nil w3)
        go_wp2_with fail
        ((with_reducible refine EXA.out.mono ?_); rintro e w4 ⟨rfl, rfl⟩)
        have WK := Lib.hid (works_any w3)
        clear EXA
        go_wp2_with fail
        ((with_reducible refine WK.out.mono ?_); rintro e w9 ⟨rfl, hb⟩)
        have HB := Lib.hid (HB.out.trans (hb.mono HB.out.size))
        clear hb WK
        go_wp2
        go_ret
        exact ⟨rfl, HB.out⟩
      | ok r =>
        obtain ⟨x, n⟩ := r
        rw [hx, ← HK.out] at d1
        have D1 := Lib.hid d1
        have hfit := doP_fit HFR.out hx
        clear d1
        go_wp2_with fail
        ((with_reducible refine D1.out.mono ?_); rintro e w2 ⟨b1, rfl, hr1, hb⟩)
        have HB := Lib.hid (HB.out.trans (hb.mono HB.out.size))
        have d2 := rdo_any (HA.out.below hb) (fun j => (HFR.out j).ok) c (i := i) (by omega) k hk4
        rw [hx, ← HK.out] at d2
        have D2 := Lib.hid d2
        have HR1 := Lib.hid hr1
        clear hb D1 d2 hx hr1
        go_wp2_with fail
        ((with_reducible refine D2.out.mono ?_); rintro e w3 ⟨b2, rfl, hr2, hb⟩)
        have HB := Lib.hid (HB.out.trans (hb.mono HB.out.size))
        have EXA := Lib.hid (exact_at (HR1.out.below hb) hr2 hfit.1 (by omega))
        clear hb D2 hr2 HR1 hfit
        go_wp2_with fail
        ((with_reducible refine EXA.out.mono ?_); rintro e w4 ⟨rfl, m9, rfl⟩)
        have HB := Lib.hid (Lx.below_drewN HB.out m9)
        have WK := Lib.hid (works_any (w3.drewN m9))
        clear EXA
        go_wp2_with fail
        ((with_reducible refine WK.out.mono ?_); rintro e w9 ⟨rfl, hb⟩)
        have HB := Lib.hid (HB.out.trans (hb.mono HB.out.size))
        clear hb WK
        go_wp2
        go_ret
        exact ⟨rfl, HB.out⟩
theorem reads_law (a0 : ByteArray) (a1 : Int) (a2 : Int) (w0 : a0.size ≤ maxLen) (w1 : (Lit.int .i64 a1).wf = true) (w2 : (Lit.int .u8 a2).wf = true) (w : World) :
    Calls Try.prog 6 #[.string a0, .int .i64 a1, .int .u8 a2] w fun e w' => e = .returned (.bool true) ∧ Below w.heap.size w w' := by
  have b1 := bounds_i64 w1
  have b2 := bounds_u8 w2
  exact reads_walk a0 a1 a2 w (by unfold maxLen at w0; omega) ⟨by omega, by omega⟩ ⟨by omega, by omega⟩
end Go.Proofs.Ytnboenmkngjhmaa.Ex
