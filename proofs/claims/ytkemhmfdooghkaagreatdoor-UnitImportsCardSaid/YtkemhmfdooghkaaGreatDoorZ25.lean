/- A part of the proof: N6. -/
import Derived.Test.YtkemhmfdooghkaaGreatDoorZ1
import Derived.Test.YtkemhmfdooghkaaGreatDoorZ24
set_option linter.unusedSimpArgs false
set_option linter.unusedVariables false

section
namespace Go.Proofs.YtkemhmfdooghkaaGreatDoor.Un
open Go.RowKit
open Tr (Nd Fo RepS RepN Rep cellsN)
open Lx (Tk noTk Blk run_store_complexL TokAt)
open Fl
open Ex
open St (TkS g2_max Good2 isNm KG KN new_kg new_0 kid_facts one_ptr sSem sCol sEnd isWd6 ret_ bind_err need_n)
open De (LG new_leaf new_lg namesF sImport sModule run_field0)
attribute [local go_sem] run_store_complexL run_field0 run_field1 run_field3
section
variable {α β : Type} {p : Par α} {q : α → Par β} {s : ByteArray} {L : List PT} {i j : Nat} {x : β}
theorem bind_inv (h : bindP p q L i = .ok (x, j)) : ∃ y m, p L i = .ok (y, m) ∧ q y L m = .ok (x, j) := by
 unfold bindP at h
 cases hp : p L i with
 | error k => rw [hp] at h; cases h
 | ok r => rw [hp] at h; exact ⟨r.1, r.2, rfl, h⟩
theorem need_inv {p : Par β} (h : needF s p L i = .ok (x, j)) : p L (i + 1) = .ok (x, j) := by
 unfold needF tokP at h
 split at h
 ·exact h
 ·cases h
end
theorem toL_eq (t s : ByteArray) : (t.toList == s.data.toList) = decide (t = s) := by
 have hl : t.toList = t.data.toList := ByteArray.toList_eq t
 rw [hl]
 rw [Bool.eq_iff_iff, beq_iff_eq, decide_eq_true_iff]
 exact ⟨fun h => by obtain ⟨⟨a⟩⟩ := t; obtain ⟨⟨b⟩⟩ := s; simp at h; subst h; rfl, fun h => by rw [h]⟩
theorem isThe_lt {L : List PT} {i : Nat} {s : ByteArray} (h : isThe s (tk L i) = true) : i < L.length := by
 rcases Nat.lt_or_ge i L.length with h1 | h1
 ·exact h1
 ·rw [tk_end h1] at h; cases h
theorem rest_eq {bl : Par T1} {df : Par (List T1)} {l : List T1} {L : List PT} {j : Nat} : restF bl df 52 l L j = restR l (bl L j) := by
 unfold restF restR
 rw [if_neg (by decide)]
 unfold bindP
 all_goals (cases bl L j <;> rfl)
theorem imports_len {g : Nat} {L : List PT} : ∀ {f : Nat} {acc : List T1} {i : Nat} {l : List T1} {j : Nat}, importsR g f acc L i = .ok (l, j) → l.length ≤ acc.length + f
 | 0, _, _, _, _, h => by cases h
 | f + 1, acc, i, l, j, h => by
   have hl : ∀ (p : Par (List T1)) (k : Nat), tokP (tT sImport) (fun t => bindP (namesF g []) fun l => needF sSem (importsR g f (acc ++ [mk 53 t.2.1 sNil 0 l]))) (retP acc) L k = .ok (l, j) → l.length ≤ acc.length + (f + 1) := fun _ k h => by
    by_cases ht : tT sImport (tk L k) = true
    ·rw [tok_y ht] at h
     obtain ⟨y, m, _, h⟩ := bind_inv h
     have h := imports_len (need_inv h)
     simp only [List.length_append, List.length_singleton] at h
     omega
    ·rw [tok_n (by simpa using ht)] at h
     injection h with h; injection h with h; subst h; omega
   rw [importsR] at h
   by_cases ht : tT sFrom (tk L i) = true
   ·rw [tok_y ht] at h
    by_cases hn : isNm (tk L (i + 1)) = true
    ·rw [tok_y hn] at h
     obtain ⟨y, m, _, h⟩ := bind_inv (need_inv h)
     have h := imports_len (need_inv h)
     simp only [List.length_append, List.length_singleton] at h
     omega
    ·rw [tok_n (by simpa using hn)] at h
     cases h
   ·rw [tok_n (by simpa using ht)] at h
    exact hl failP _ h
set_option maxRecDepth 100000 in set_option maxHeartbeats 6400000 in
theorem unit_any {g : Nat} {bl : Par T1} {df : Par (List T1)} (hbl : Good2 bl) {w0 : World} {br c : Nat} {A : Option Addr} {L : List PT} (ht : TkS w0 br A L) (hg : L.length < g) (hg2 : g ≤ 900000) (hLs : L.length ≤ 60000) (i : Nat) (hi : i ≤ L.length) (w : World) (h : PInv w0 w br A c L i)
 (hd1 : isWd6 sDefn (tk L i) = false) (hd2 : isWd6 sImpl (tk L i) = false)
 (HBk : ∀ l j, importsR g g [] L (i + 1 + 1 + 1) = .ok (l, j) → ∀ wx, RowAt wx A L → Calls Tryz.prog 50 #[.slice A L.length c, .int .i64 j] wx (ParR wx (bl L j))) :
 Calls Tryz.prog 20 #[.pointer (some ⟨br, 0, none⟩)] w (TreeR w.heap.size w0 w br A c L (unitG g bl df L i)) := by
 have hbr0 := h.row.lt
 have hlen := ht.toks.len
 have H0 := qh h
 have H := qh (PG.start h)
 have HT := qh ht
 have HBL := qh HBk
 obtain ⟨res, hs0⟩ : ∃ r, r = unitG g bl df L i := ⟨_, rfl⟩
 have HS := qh (show res = tailF g bl df 52 (tk L i).2.1 L i from by
  rw [hs0]; unfold unitG posP
  show tokP (isWd6 sDefn) _ _ L i = _
  rw [tok_n (t := isWd6 sDefn) hd1, tok_n (t := isWd6 sImpl) hd2])
 rw [← hs0]
 clear h ht hs0 HBk
 have n1 := now_any HT.out.toks (i := i) (by omega) _ H.out.1
 obtain ⟨k_p, p1, p2, q3_p, q4_p, t_p, n_p, e1, e2⟩ := val_form (tk L i)
 rw [e1] at HS hd1 hd2
 have HS := qh (show res = needF sModule (tokP isNm (fun n => needF sSem (bindP (importsR g g []) fun l => bindP (restF bl df 52 l) fun l2 => tokP (isThe n.1.text) (fun _ => needF sDot (retP (mk 52 (p1, p2) n.1.text 0 l2))) failP)) failP) L i from HS.out)
 rw [e2] at n1
 have N1 := qh n1
 clear n1 e1 e2
 simp only [isWd6, Bool.and_eq_false_iff, decide_eq_false_iff_not] at hd1 hd2
 go_enter Tryz.func20, Tryz.ntmps20
 go_wp2_with fail
 ((with_reducible refine (N1.out).mono ?_); rintro e wx ⟨rfl, hb⟩)
 have H := qh (H.out.below hb)
 clear hb N1
 have hB1 := Blk.new wx 40 #[.int .u8 k_p, .complex .f64 (fl p1) (fl p2), .complex .f64 (fl q3_p) (fl q4_p), .string t_p, .int .i64 n_p]
 have HBt := qh hB1
 have z0 := hB1.cell 0
 have z1 := hB1.cell 1
 have z3 := hB1.cell 3
 simp only [List.getElem?_toArray, List.getElem?_cons_zero, List.getElem?_cons_succ] at z0 z1 z3
 have H := qh (H.out.alloc (.cells #[.int .u8 k_p, .complex .f64 (fl p1) (fl p2), .complex .f64 (fl q3_p) (fl q4_p), .string t_p, .int .i64 n_p] 40))
 clear hB1
 have NW := qh (new_0 (B0 := w.heap.size) (w := wx.alloc (.cells #[.int .u8 k_p, .complex .f64 (fl p1) (fl p2), .complex .f64 (fl q3_p) (fl q4_p), .string t_p, .int .i64 n_p] 40)) H.out.2.size 52 52 rfl p1 p2 sNil 0)
 go_wp2_with fail
 ((with_reducible refine NW.out.mono ?_); rintro e wy ⟨b, sv0, xs0, rfl, hb, hk⟩)
 have HBt := qh (HBt.out.below hb (by rw [World.size_alloc]; omega))
 have HK := qh (hk.lower H.out.2.size)
 have H := qh (H.out.below hb)
 clear hb hk NW z0 z1 z3
 have z0 := HBt.out.cell 0
 have z3 := HBt.out.cell 3
 simp only [List.getElem?_toArray, List.getElem?_cons_zero, List.getElem?_cons_succ] at z0 z3
 clear HBt
 by_cases hk6 : k_p = 6
 ·have hk6' : (k_p : Int) = 6 := by omega
  have hs1 : (t_p.toList == [68, 69, 70, 73, 78, 73, 84, 73, 79, 78]) = false := (toL_eq t_p sDefn).trans (decide_eq_false (by rcases hd1 with h | h; exact absurd hk6 h; exact h))
  have hs2 : (t_p.toList == [73, 77, 80, 76, 69, 77, 69, 78, 84, 65, 84, 73, 79, 78]) = false := (toL_eq t_p sImpl).trans (decide_eq_false (by rcases hd2 with h | h; exact absurd hk6 h; exact h))
  clear hd1 hd2 hk6
  cases hT : isT L (i) sModule with
  | false =>
    have D1 := qh (need_no HT.out.toks (i := i) (by omega) sModule _ H.out.1 hT  )
    have HS := qh (HS.out.trans (need_n hT))
    go_wp2_with fail
    ((with_reducible refine D1.out.mono ?_); rintro e w1 ⟨rfl, hb⟩)
    have H3 := qh (grown_trans H.out.2 hb)
    clear hb
    go_wp2
    refine ⟨rfl, ?_⟩
    rw [HS.out]
    exact ⟨rfl, H3.out⟩
  | true =>
    have hjn := isT_lt hT
    have D1 := qh (need_ok HT.out.toks (i := i) (by omega) sModule _ H.out.1 hT  )
    have HS := qh (HS.out.trans (need_y hT))
    clear hT
    go_wp2_with fail
    ((with_reducible refine (D1.out).mono ?_); rintro e wx ⟨rfl, hb⟩)
    have hg := hb.2
    have H := qh (H.out.trans hb)
    have HK := qh (HK.out.grown hg hbr0 (Nat.le_refl _))
    clear hb hg D1
    cases hk : isThe sNil (tk L (i + 1)) with
    | false =>
      have D1 := qh (name_no HT.out.toks (i := i + 1) (by omega) sNil _ H.out.1 hk)
      have HS := qh ((HS.out.trans (tok_n (t := isNm) (isThe_nm hk))).trans fail_)
      clear hk
      go_wp2_with fail
      ((with_reducible refine D1.out.mono ?_); rintro e w1 ⟨rfl, hb⟩)
      have H3 := qh (grown_trans H.out.2 hb)
      clear hb
      go_wp2
      refine ⟨rfl, ?_⟩
      rw [HS.out]
      exact ⟨rfl, H3.out⟩
    | true =>
      have hjn2 := isThe_lt hk
      have D1 := name_ok HT.out.toks (i := i + 1) (by omega) sNil _ H.out.1 hk
      obtain ⟨k_, o1, o2, q1, q2, t_, n_, e1, e2⟩ := val_form (tk L (i + 1))
      rw [e2] at D1
      have HS := qh (HS.out.trans (tok_y (t := isNm) (isThe_nm hk)))
      rw [e1] at HS
      have HS := qh (show res = needF sSem (bindP (importsR g g []) fun l => bindP (restF bl df 52 l) fun l2 => tokP (isThe t_) (fun _ => needF sDot (retP (mk 52 (p1, p2) t_ 0 l2))) failP) L (i + 1 + 1) from HS.out)
      have D1 := qh D1
      clear e1 e2 hk
      go_wp2_with fail
      ((with_reducible refine (D1.out).mono ?_); rintro e wx ⟨rfl, hb⟩)
      have hg' := hb.2
      have H := qh (H.out.trans hb)
      have HK := qh (HK.out.grown hg' hbr0 (Nat.le_refl _))
      clear hb hg' D1
      obtain ⟨_, _, z2, z2f⟩ := KG.f02 HK.out
      have HK2 := qh (KG.cell_set HK.out 2 (.string t_) ⟨52, (p1, p2), t_, 0⟩ rfl)
      have H := qh (H.out.far H0.out HK.out.kn.low 2 (.string t_))
      have HK := HK2
      clear HK2
      cases hT : isT L (i + 1 + 1) sSem with
      | false =>
        have D1 := qh (need_no HT.out.toks (i := i + 1 + 1) (by omega) sSem _ H.out.1 hT  )
        have HS := qh (HS.out.trans (need_n hT))
        go_wp2_with fail
        ((with_reducible refine D1.out.mono ?_); rintro e w1 ⟨rfl, hb⟩)
        have H3 := qh (grown_trans H.out.2 hb)
        clear hb
        go_wp2
        refine ⟨rfl, ?_⟩
        rw [HS.out]
        exact ⟨rfl, H3.out⟩
      | true =>
        have hjn := isT_lt hT
        have D1 := qh (need_ok HT.out.toks (i := i + 1 + 1) (by omega) sSem _ H.out.1 hT  )
        have HS := qh (HS.out.trans (need_y hT))
        clear hT
        go_wp2_with fail
        ((with_reducible refine (D1.out).mono ?_); rintro e wx ⟨rfl, hb⟩)
        have hg := hb.2
        have H := qh (H.out.trans hb)
        have HK := qh (HK.out.grown hg hbr0 (Nat.le_refl _))
        clear hb hg D1
        have d1 := imports_any HT.out hg H0.out (i + 1 + 1 + 1) (by omega) _ H.out HK.out (Nat.zero_le _)
        cases hx : importsR g g [] L (i + 1 + 1 + 1) with
        | error k9 =>
          rw [hx] at d1
          have D1 := qh (show Calls _ _ _ _ (ImpR w0 w br A c L b ⟨52, (p1, p2), t_, 0⟩ (.error k9)) from d1)
          have HS := qh (HS.out.trans (bind_err hx))
          clear d1 hx
          go_wp2_with fail
          ((with_reducible refine D1.out.mono ?_); rintro e w1 ⟨rfl, hb⟩)
          have H3 := qh hb
          clear hb
          go_wp2
          refine ⟨rfl, ?_⟩
          rw [HS.out]
          exact ⟨rfl, H3.out⟩
        | ok r =>
          obtain ⟨l, j5⟩ := r
          rw [hx] at d1
          have D1 := qh (show Calls _ _ _ _ (ImpR w0 w br A c L b ⟨52, (p1, p2), t_, 0⟩ (.ok (l, j5))) from d1)
          have HS := qh (HS.out.trans (bind_ok hx))
          have hj5 := g2_max (g2_imports (g := g) g []) L (i + 1 + 1 + 1)
          rw [hx] at hj5
          simp only [posE] at hj5
          have hll : l.length ≤ g := by simpa using imports_len hx
          clear d1 HK H
          go_wp2_with fail
          ((with_reducible refine D1.out.mono ?_); rintro e w5 ⟨rfl, hgg, sv5, xs5, hkk⟩)
          have H := qh hgg
          have HK := qh hkk
          clear hgg hkk D1
          have d1 := rest_any HT.out H0.out j5 (by omega) _ H.out (sv := sv5) (xs := xs5) (acc := l) HK.out (by omega) (HBL.out l j5 hx)
          cases hx2 : bl L j5 with
          | error k9 =>
            rw [hx2] at d1
            have D1 := qh (show Calls _ _ _ _ (ImpR w0 w br A c L b ⟨52, (p1, p2), t_, 0⟩ (.error k9)) from d1)
            have HS := qh (HS.out.trans (bind_err (rest_eq.trans (by rw [hx2]; rfl))))
            clear d1 hx hx2
            go_wp2_with fail
            ((with_reducible refine D1.out.mono ?_); rintro e w1 ⟨rfl, hb⟩)
            have H3 := qh hb
            clear hb
            go_wp2
            refine ⟨rfl, ?_⟩
            rw [HS.out]
            exact ⟨rfl, H3.out⟩
          | ok r =>
            obtain ⟨y, j7⟩ := r
            rw [hx2] at d1
            have D1 := qh (show Calls _ _ _ _ (ImpR w0 w br A c L b ⟨52, (p1, p2), t_, 0⟩ (.ok (l ++ [y], j7))) from d1)
            have HS := qh (HS.out.trans (bind_ok (rest_eq.trans (by rw [hx2]; rfl))))
            have hj7 := g2_max hbl L j5
            rw [hx2] at hj7
            simp only [posE] at hj7
            clear d1 hx hx2 HK H
            go_wp2_with fail
            ((with_reducible refine D1.out.mono ?_); rintro e w7 ⟨rfl, hgg, sv7, xs7, hkk⟩)
            have H := qh hgg
            have HK := qh hkk
            clear hgg hkk D1
            obtain ⟨_, _, z2, z2f⟩ := KG.f02 HK.out
            cases hk : isThe t_ (tk L j7) with
            | false =>
              have D1 := qh (name_no HT.out.toks (i := j7) (by omega) t_ _ H.out.1 hk)
              have HS := qh ((HS.out.trans (tok_n (t := isThe t_) hk)).trans fail_)
              clear hk
              go_wp2_with fail
              ((with_reducible refine D1.out.mono ?_); rintro e w1 ⟨rfl, hb⟩)
              have H3 := qh (grown_trans H.out.2 hb)
              clear hb
              go_wp2
              refine ⟨rfl, ?_⟩
              rw [HS.out]
              exact ⟨rfl, H3.out⟩
            | true =>
              have hjn := isThe_lt hk
              have D1 := qh (name_ok HT.out.toks (i := j7) (by omega) t_ _ H.out.1 hk)
              have HS := qh (HS.out.trans (tok_y (t := isThe t_) hk))
              clear hk
              go_wp2_with fail
              ((with_reducible refine (D1.out).mono ?_); rintro e wx ⟨rfl, hb⟩)
              have hg := hb.2
              have H := qh (H.out.trans hb)
              have HK := qh (HK.out.grown hg hbr0 (Nat.le_refl _))
              clear hb hg D1
              cases hT : isT L (j7 + 1) sDot with
              | false =>
                have D1 := qh (need_no HT.out.toks (i := j7 + 1) (by omega) sDot _ H.out.1 hT  )
                have HS := qh (HS.out.trans (need_n hT))
                go_wp2_with fail
                ((with_reducible refine D1.out.mono ?_); rintro e w1 ⟨rfl, hb⟩)
                have H3 := qh (grown_trans H.out.2 hb)
                clear hb
                go_wp2
                refine ⟨rfl, ?_⟩
                rw [HS.out]
                exact ⟨rfl, H3.out⟩
              | true =>
                have hjn := isT_lt hT
                have D1 := qh (need_ok HT.out.toks (i := j7 + 1) (by omega) sDot _ H.out.1 hT  )
                have HS := qh (HS.out.trans (need_y hT))
                clear hT
                go_wp2_with fail
                ((with_reducible refine (D1.out).mono ?_); rintro e wx ⟨rfl, hb⟩)
                have hg := hb.2
                have H := qh (H.out.trans hb)
                have HK := qh (HK.out.grown hg hbr0 (Nat.le_refl _))
                clear hb hg D1
                go_wp2
                go_ret
                rw [HS.out]
                exact ⟨b, rfl, H.out.1, H.out.2, KG.done0 HK.out⟩
 ·have hk6' : ¬ (k_p : Int) = 6 := by omega
  clear hd1 hd2 hk6
  cases hT : isT L (i) sModule with
  | false =>
    have D1 := qh (need_no HT.out.toks (i := i) (by omega) sModule _ H.out.1 hT  )
    have HS := qh (HS.out.trans (need_n hT))
    go_wp2_with fail
    ((with_reducible refine D1.out.mono ?_); rintro e w1 ⟨rfl, hb⟩)
    have H3 := qh (grown_trans H.out.2 hb)
    clear hb
    go_wp2
    refine ⟨rfl, ?_⟩
    rw [HS.out]
    exact ⟨rfl, H3.out⟩
  | true =>
    have hjn := isT_lt hT
    have D1 := qh (need_ok HT.out.toks (i := i) (by omega) sModule _ H.out.1 hT  )
    have HS := qh (HS.out.trans (need_y hT))
    clear hT
    go_wp2_with fail
    ((with_reducible refine (D1.out).mono ?_); rintro e wx ⟨rfl, hb⟩)
    have hg := hb.2
    have H := qh (H.out.trans hb)
    have HK := qh (HK.out.grown hg hbr0 (Nat.le_refl _))
    clear hb hg D1
    cases hk : isThe sNil (tk L (i + 1)) with
    | false =>
      have D1 := qh (name_no HT.out.toks (i := i + 1) (by omega) sNil _ H.out.1 hk)
      have HS := qh ((HS.out.trans (tok_n (t := isNm) (isThe_nm hk))).trans fail_)
      clear hk
      go_wp2_with fail
      ((with_reducible refine D1.out.mono ?_); rintro e w1 ⟨rfl, hb⟩)
      have H3 := qh (grown_trans H.out.2 hb)
      clear hb
      go_wp2
      refine ⟨rfl, ?_⟩
      rw [HS.out]
      exact ⟨rfl, H3.out⟩
    | true =>
      have hjn2 := isThe_lt hk
      have D1 := name_ok HT.out.toks (i := i + 1) (by omega) sNil _ H.out.1 hk
      obtain ⟨k_, o1, o2, q1, q2, t_, n_, e1, e2⟩ := val_form (tk L (i + 1))
      rw [e2] at D1
      have HS := qh (HS.out.trans (tok_y (t := isNm) (isThe_nm hk)))
      rw [e1] at HS
      have HS := qh (show res = needF sSem (bindP (importsR g g []) fun l => bindP (restF bl df 52 l) fun l2 => tokP (isThe t_) (fun _ => needF sDot (retP (mk 52 (p1, p2) t_ 0 l2))) failP) L (i + 1 + 1) from HS.out)
      have D1 := qh D1
      clear e1 e2 hk
      go_wp2_with fail
      ((with_reducible refine (D1.out).mono ?_); rintro e wx ⟨rfl, hb⟩)
      have hg' := hb.2
      have H := qh (H.out.trans hb)
      have HK := qh (HK.out.grown hg' hbr0 (Nat.le_refl _))
      clear hb hg' D1
      obtain ⟨_, _, z2, z2f⟩ := KG.f02 HK.out
      have HK2 := qh (KG.cell_set HK.out 2 (.string t_) ⟨52, (p1, p2), t_, 0⟩ rfl)
      have H := qh (H.out.far H0.out HK.out.kn.low 2 (.string t_))
      have HK := HK2
      clear HK2
      cases hT : isT L (i + 1 + 1) sSem with
      | false =>
        have D1 := qh (need_no HT.out.toks (i := i + 1 + 1) (by omega) sSem _ H.out.1 hT  )
        have HS := qh (HS.out.trans (need_n hT))
        go_wp2_with fail
        ((with_reducible refine D1.out.mono ?_); rintro e w1 ⟨rfl, hb⟩)
        have H3 := qh (grown_trans H.out.2 hb)
        clear hb
        go_wp2
        refine ⟨rfl, ?_⟩
        rw [HS.out]
        exact ⟨rfl, H3.out⟩
      | true =>
        have hjn := isT_lt hT
        have D1 := qh (need_ok HT.out.toks (i := i + 1 + 1) (by omega) sSem _ H.out.1 hT  )
        have HS := qh (HS.out.trans (need_y hT))
        clear hT
        go_wp2_with fail
        ((with_reducible refine (D1.out).mono ?_); rintro e wx ⟨rfl, hb⟩)
        have hg := hb.2
        have H := qh (H.out.trans hb)
        have HK := qh (HK.out.grown hg hbr0 (Nat.le_refl _))
        clear hb hg D1
        have d1 := imports_any HT.out hg H0.out (i + 1 + 1 + 1) (by omega) _ H.out HK.out (Nat.zero_le _)
        cases hx : importsR g g [] L (i + 1 + 1 + 1) with
        | error k9 =>
          rw [hx] at d1
          have D1 := qh (show Calls _ _ _ _ (ImpR w0 w br A c L b ⟨52, (p1, p2), t_, 0⟩ (.error k9)) from d1)
          have HS := qh (HS.out.trans (bind_err hx))
          clear d1 hx
          go_wp2_with fail
          ((with_reducible refine D1.out.mono ?_); rintro e w1 ⟨rfl, hb⟩)
          have H3 := qh hb
          clear hb
          go_wp2
          refine ⟨rfl, ?_⟩
          rw [HS.out]
          exact ⟨rfl, H3.out⟩
        | ok r =>
          obtain ⟨l, j5⟩ := r
          rw [hx] at d1
          have D1 := qh (show Calls _ _ _ _ (ImpR w0 w br A c L b ⟨52, (p1, p2), t_, 0⟩ (.ok (l, j5))) from d1)
          have HS := qh (HS.out.trans (bind_ok hx))
          have hj5 := g2_max (g2_imports (g := g) g []) L (i + 1 + 1 + 1)
          rw [hx] at hj5
          simp only [posE] at hj5
          have hll : l.length ≤ g := by simpa using imports_len hx
          clear d1 HK H
          go_wp2_with fail
          ((with_reducible refine D1.out.mono ?_); rintro e w5 ⟨rfl, hgg, sv5, xs5, hkk⟩)
          have H := qh hgg
          have HK := qh hkk
          clear hgg hkk D1
          have d1 := rest_any HT.out H0.out j5 (by omega) _ H.out (sv := sv5) (xs := xs5) (acc := l) HK.out (by omega) (HBL.out l j5 hx)
          cases hx2 : bl L j5 with
          | error k9 =>
            rw [hx2] at d1
            have D1 := qh (show Calls _ _ _ _ (ImpR w0 w br A c L b ⟨52, (p1, p2), t_, 0⟩ (.error k9)) from d1)
            have HS := qh (HS.out.trans (bind_err (rest_eq.trans (by rw [hx2]; rfl))))
            clear d1 hx hx2
            go_wp2_with fail
            ((with_reducible refine D1.out.mono ?_); rintro e w1 ⟨rfl, hb⟩)
            have H3 := qh hb
            clear hb
            go_wp2
            refine ⟨rfl, ?_⟩
            rw [HS.out]
            exact ⟨rfl, H3.out⟩
          | ok r =>
            obtain ⟨y, j7⟩ := r
            rw [hx2] at d1
            have D1 := qh (show Calls _ _ _ _ (ImpR w0 w br A c L b ⟨52, (p1, p2), t_, 0⟩ (.ok (l ++ [y], j7))) from d1)
            have HS := qh (HS.out.trans (bind_ok (rest_eq.trans (by rw [hx2]; rfl))))
            have hj7 := g2_max hbl L j5
            rw [hx2] at hj7
            simp only [posE] at hj7
            clear d1 hx hx2 HK H
            go_wp2_with fail
            ((with_reducible refine D1.out.mono ?_); rintro e w7 ⟨rfl, hgg, sv7, xs7, hkk⟩)
            have H := qh hgg
            have HK := qh hkk
            clear hgg hkk D1
            obtain ⟨_, _, z2, z2f⟩ := KG.f02 HK.out
            cases hk : isThe t_ (tk L j7) with
            | false =>
              have D1 := qh (name_no HT.out.toks (i := j7) (by omega) t_ _ H.out.1 hk)
              have HS := qh ((HS.out.trans (tok_n (t := isThe t_) hk)).trans fail_)
              clear hk
              go_wp2_with fail
              ((with_reducible refine D1.out.mono ?_); rintro e w1 ⟨rfl, hb⟩)
              have H3 := qh (grown_trans H.out.2 hb)
              clear hb
              go_wp2
              refine ⟨rfl, ?_⟩
              rw [HS.out]
              exact ⟨rfl, H3.out⟩
            | true =>
              have hjn := isThe_lt hk
              have D1 := qh (name_ok HT.out.toks (i := j7) (by omega) t_ _ H.out.1 hk)
              have HS := qh (HS.out.trans (tok_y (t := isThe t_) hk))
              clear hk
              go_wp2_with fail
              ((with_reducible refine (D1.out).mono ?_); rintro e wx ⟨rfl, hb⟩)
              have hg := hb.2
              have H := qh (H.out.trans hb)
              have HK := qh (HK.out.grown hg hbr0 (Nat.le_refl _))
              clear hb hg D1
              cases hT : isT L (j7 + 1) sDot with
              | false =>
                have D1 := qh (need_no HT.out.toks (i := j7 + 1) (by omega) sDot _ H.out.1 hT  )
                have HS := qh (HS.out.trans (need_n hT))
                go_wp2_with fail
                ((with_reducible refine D1.out.mono ?_); rintro e w1 ⟨rfl, hb⟩)
                have H3 := qh (grown_trans H.out.2 hb)
                clear hb
                go_wp2
                refine ⟨rfl, ?_⟩
                rw [HS.out]
                exact ⟨rfl, H3.out⟩
              | true =>
                have hjn := isT_lt hT
                have D1 := qh (need_ok HT.out.toks (i := j7 + 1) (by omega) sDot _ H.out.1 hT  )
                have HS := qh (HS.out.trans (need_y hT))
                clear hT
                go_wp2_with fail
                ((with_reducible refine (D1.out).mono ?_); rintro e wx ⟨rfl, hb⟩)
                have hg := hb.2
                have H := qh (H.out.trans hb)
                have HK := qh (HK.out.grown hg hbr0 (Nat.le_refl _))
                clear hb hg D1
                go_wp2
                go_ret
                rw [HS.out]
                exact ⟨b, rfl, H.out.1, H.out.2, KG.done0 HK.out⟩
end Go.Proofs.YtkemhmfdooghkaaGreatDoor.Un
end
