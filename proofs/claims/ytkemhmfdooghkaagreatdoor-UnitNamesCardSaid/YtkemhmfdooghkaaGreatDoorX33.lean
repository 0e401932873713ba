import Derived.Test.YtkemhmfdooghkaaGreatDoorX32
set_option linter.unusedSimpArgs false
set_option linter.unusedVariables false
set_option maxRecDepth 100000
set_option maxHeartbeats 6400000
namespace Go.Proofs.YtkemhmfdooghkaaGreatDoor
namespace St
open Go.RowKit
open Tr (Nd Fo RepS RepN Rep cellsN)
open Lx (Tk noTk Blk run_store_complexL TokAt)
open Fl
open Ex
attribute [local go_sem] run_store_complexL run_fieldY0 run_field1 run_field3
abbrev KPy (B0 b : Nat) (sv : Value) : Nat → Prop := fun y => B0 ≤ y ∧ y ≠ b ∧ sv.ownBlock ≠ some y
theorem kpy_grown {B0 b br : Nat} {sv : Value} {w w' : World} {f : Fo} {vs : List Value} (h : RepS (KPy B0 b sv) w f vs) (hg : w.grownBy w' (some br)) (hbr : br < B0) : RepS (KPy B0 b sv) w' f vs :=
 h.keep hg.size (fun y hy hl => hg.block y hl (fun e => by injection e with e; have := hy.1; omega)) (fun y hy _ => hy)
theorem rep2_y {S : Nat → Prop} {w : World} {x y : T1} {v u : Value} (h : RepS S w (forest [x]) [v]) (h2 : RepS S w (forest [y]) [u]) : RepS S w (forest [x, y]) [v, u] := repS_cons h h2
theorem ptrs_y {vs : List Value} (h : ∀ v ∈ vs, ∃ p, v = .pointer p) : ∀ v ∈ vs, v.oneCell' = true := fun v hv => by obtain ⟨p, rfl⟩ := h v hv; rfl
theorem ptr2_y (p q : Option Addr) : ∀ v ∈ [Value.pointer p, Value.pointer q], v.oneCell' = true := ptrs_y fun v hv => by
 simp only [List.mem_cons, List.not_mem_nil, or_false] at hv
 rcases hv with rfl | rfl <;> exact ⟨_, rfl⟩
theorem new_iny {B0 B : Nat} {w : World} {b : Nat} {d : Nd} {sv : Value} {acc : List T1} {xs : List Value} (h : KG B0 B w b d sv acc xs) (hB : B0 ≤ B) (kI : Int) (kind : Nat) (hkI : kI = (kind : Int)) (p1 p2 : Nat) (name : ByteArray) (vs : List Value) (l : List T1) (m : Nat) (hm : w.heap.size = m) (n : Nat) (hn : vs.length = n) (hv : n ≤ 1000) (hk : RepS (KPy B0 b sv) w (forest l) vs) :
 Calls Tryz.prog 33 #[.int .u8 kI, .complex .f64 (fl p1) (fl p2), .string name, .int .i64 0, .slice (some ⟨m, 0, none⟩) n n] (w.alloc (.cells vs.toArray 31)) fun e w' =>
  ∃ b', e = .returned (.pointer (some ⟨b', 0, none⟩)) ∧ Below w.heap.size w w' ∧ RepS (KPy B0 b sv) w' (.node (mk kind (p1, p2) name 0 l).1 (mk kind (p1, p2) name 0 l).2 .no) [.pointer (some ⟨b', 0, none⟩)] := by
 subst hm hn hkI
 have hb : Below w.heap.size w (w.alloc (.cells vs.toArray 31)) := (Below.refl _ _).alloc nl _
 refine (Tr.new_any (KPy B0 b sv) kind p1 p2 name 0 (some ⟨w.heap.size, 0, none⟩) vs.length vs (forest l) (w.alloc (.cells vs.toArray 31)) (by omega) (by have := reads_lit w vs.toArray 31; simpa using this) (repN_of (hk.below hb))).mono ?_
 rintro e w' ⟨u, rfl, hb2, hr⟩
 obtain ⟨b', _, _, _, rfl, _⟩ := hr.rep.one
 refine ⟨b', rfl, hb.trans (hb2.mono hb.size), hr.more fun x hx _ => hx.elim id fun hx => ?_⟩
 have h1 := h.kn.blk.lt
 have h2 := h.kn.low
 have h3 := hb.size
 exact ⟨by omega, by omega, fun e => by have := (h.kn.own.lt _ e).2; omega⟩
theorem ifs_y1 {g : Nat} {bd : Par T1} {f : Nat} {acc : List T1} {Q : List T1 → Par T1} : bindP (ifsF g bd (f + 1) acc) Q = bindP (exprF g) fun c => needF sThen (bindP bd fun b => tokP (tT sElsif) (fun _ => bindP (ifsF g bd f (acc ++ [c, b])) Q) (Q (acc ++ [c, b]))) := by
 rw [ifsF]
 simp only [sb_assoc, sb_need, sb_tok, sb_ret]
theorem arms_y1 {g : Nat} {bd : Par T1} {f : Nat} {acc : List T1} {Q : List T1 → Par T1} : bindP (armsF g bd (f + 1) acc) Q = posP fun t => if armOut t = true then tokP (tT sBar) (fun _ => bindP (armsF g bd f acc) Q) (Q acc)
 else bindP (labelsF g) fun l => needF sCol (bindP bd fun b => tokP (tT sBar) (fun _ => bindP (armsF g bd f (acc ++ [mk 28 t.2.1 sNil 0 [l, b]])) Q) (Q (acc ++ [mk 28 t.2.1 sNil 0 [l, b]]))) := by
 rw [armsF, sb_pos]
 congr 1
 funext t
 rw [sb_ite]
 simp only [sb_assoc, sb_need, sb_tok, sb_ret]
def caseQ (bd : Par T1) (p : Nat × Nat) (l : List T1) : Par T1 := tokP (tT sElse) (fun t => bindP bd fun b => endS 63 p sNil (l ++ [mk 30 t.2.1 sNil 0 [b]])) (endS 63 p sNil l)
theorem ifs_y {g : Nat} {w0 : World} {br c : Nat} {A : Option Addr} {L : List PT} (ht : TkS w0 br A L) (hgL : L.length < g) {bd : Par T1} (hbd : Good2 bd) {lo : Nat} (HBd : Hid (TyS 97 bd lo w0 br A c L)) (i : Nat) (hlo : lo ≤ i) (hi : i ≤ L.length) (p1 p2 : Nat) (w : World) (h : PInv w0 w br A c L i) :
 Calls Tryz.prog 108 #[.pointer (some ⟨br, 0, none⟩), .complex .f64 (fl p1) (fl p2)] w (TreeR w.heap.size w0 w br A c L (ifS g bd (p1, p2) L i)) := by
 have hbr := h.row.lt
 have H0 := qh h
 have HT := qh ht
 obtain ⟨res, hs0⟩ : ∃ r, r = ifS g bd (p1, p2) L i := ⟨_, rfl⟩
 rw [← hs0]
 have S := qh (S1.start h hi hs0)
 clear h ht hs0 hi
 go_enter Tryz.func108, Tryz.ntmps108
 unfold ifS at S
 have NW := qh (new_0 (B0 := w.heap.size) (w := w) S.out.pg.2.size 62 62 rfl p1 p2 sNil 0)
 go_wp2_with fail
 ((with_reducible refine NW.out.mono ?_); rintro e wx ⟨b, sv0, xs0, rfl, hb, hk⟩)
 have HK := qh (hk.lower S.out.pg.2.size)
 have S := qh (S.out.below hb)
 clear hb hk NW
 go_wp2_with fail
 go_loopg [] (L.length + 1) (fun gh wr => ∃ (acc : List T1) (sv : Value) (xs : List Value) (j f : Nat), lo ≤ j ∧ L.length + 1 - j ≤ gh ∧ L.length < j + f ∧ acc.length ≤ 2 * j ∧ Hid (S1 w0 w wr br c A L res (bindP (ifsF g bd f acc) (fun l => elseS bd 62 (p1, p2) l)) j) ∧ Hid (KG w.heap.size w.heap.size wr b ⟨62, (p1, p2), sNil, 0⟩ sv acc xs))
 case atStart => exact ⟨_, _, _, i, g, hlo, by omega, by omega, Nat.zero_le _, S, HK⟩
 case round =>
  clear S HK
  obtain ⟨acc, sv, xs, j, f, hlj, hgh, hf, hac, S, HK⟩ := hrel
  have hjl := S.out.le
  obtain ⟨f, rfl⟩ : ∃ f', f = f' + 1 := ⟨f - 1, by omega⟩
  have hlen := HT.out.toks.len
  have S := qh (S.out.of (q := bindP (exprF g) fun c => needF sThen (bindP bd fun b => tokP (tT sElsif) (fun _ => bindP (ifsF g bd f (acc ++ [c, b])) (fun l => elseS bd 62 (p1, p2) l)) ((fun l => elseS bd 62 (p1, p2) l) (acc ++ [c, b])))) (by rw [ifs_y1]))
  have HZ := qh S.out.pg.2.size
  go_wp2_with fail
  (with_reducible refine S.out.tree (expr_s HT.out hgL _ (by have := S.out.le; have := HT.out.toks.len; omega) _ S.out.pg.1) (g2_expr (g := g)) ?_ ?_)
  ·intro k w1 h hg; go_wp2; exact ⟨rfl, S1.errT h.out hg.out _⟩
  clear S
  intro c0 bc0 j1 wx hj1 S hg Hc
  have HC := qh (show RepS (KPy w.heap.size b sv) wx (forest [c0]) [.pointer (some ⟨bc0, 0, none⟩)] from HK.out.new Hc.out nl)
  have HK := qh (HK.out.grown hg.out hbr nl)
  clear HZ Hc
  go_wp2_with fail
  (with_reducible refine S.out.need HT.out ?_ ?_)
  ·intro k w1 h hg; go_wp2; exact ⟨rfl, S1.errT h.out hg.out _⟩
  clear S
  intro wx S hg
  have HK := qh (HK.out.grown hg.out hbr nl)
  have HC := qh (kpy_grown HC.out hg.out hbr)
  go_upto_region 4 with fail
  go_cut [] (fun wc => Hid (∃ y sv xs j3, j1 + 1 ≤ j3 ∧ S1 w0 w wc br c A L res (tokP (tT sElsif) (fun _ => bindP (ifsF g bd f (acc ++ [c0, y])) (fun l => elseS bd 62 (p1, p2) l)) ((fun l => elseS bd 62 (p1, p2) l) (acc ++ [c0, y]))) j3 ∧ KG w.heap.size w.heap.size wc b ⟨62, (p1, p2), sNil, 0⟩ sv (acc ++ [c0, y]) xs))
  case first =>
   have HKD := qh (HK.out.below ((Below.refl _ _).drew))
   have HKL := qh HK.out.len
   have D1 := qh ((S.out.below ((Below.refl _ _).drew)).treeD (HBd.out _ (by omega) S.out.le _ (S.out.pg.1.below ((Below.refl _ _).drew))) (hbd))
   have HCD := qh (HC.out.below ((Below.refl _ _).drew))
   obtain ⟨m4, m4f, hbl4⟩ := HK.out.kn.facts
   clear S HK
   go_region_law (first
    | (go_simp; go_at_call 97; (with_reducible refine D1.out.mono ?_); rintro e x (⟨k, rfl, h, hgr⟩ | ⟨y, b_y, j3, rfl, hj3, S, hgr, hr⟩); (case' inl => exact ⟨rfl, S1.errT h.out hgr.out _⟩); have HK := qh (HKD.out.grown hgr.out hbr nl); have HY := qh (show RepS (KPy w.heap.size _ _) _ (forest [y]) [.pointer (some ⟨b_y, 0, none⟩)] from HKD.out.new hr.out nl); have HC := qh (kpy_grown HCD.out hgr.out hbr); obtain ⟨t4, t4f, hbx⟩ := HK.out.kn.facts)
    | (refine step_pushKn (by rfl) _ _ (by rfl) (m := x.heap.size) (n := 2) (vs := [.pointer (some ⟨bc0, 0, none⟩), .pointer (some ⟨b_y, 0, none⟩)]) (l := [c0, y]) S.out H0.out HK.out (by omega) (rep2_y HC.out HY.out) (by rfl) (by rfl) (by decide) (by decide) (ptr2_y _ _) (by rfl) (by rfl) (by rfl) ?_; clear S HK; intro g' cap xs' w7 u4 u4f hb7 S HK))
   all_goals
    go_wp2_with fail
    go_meet
    exact qh ⟨y, _, _, j3, hj3, S.out, HK.out⟩
  case rest =>
   obtain ⟨y, sv2, xs2, j3, hj3, hc1, hc2⟩ := hcut.out
   clear S HK HC
   clear hcut
   have S := qh hc1
   have HK := qh hc2
   clear hc1 hc2
   go_wp2_with fail
   (with_reducible refine S.out.eatb HT.out ?_)
   clear S
   intro bv j4 wx hbv hj4 S hg
   have HK := qh (HK.out.grown hg.out hbr nl)
   cases bv with
   | true =>
     have hjl := S.out.le
     have hj5 := hj4.2 rfl
     go_wp2
     go_roundg (L.length + 1 - j4)
     case rel => exact ⟨_, _, _, j4, f, by omega, by omega, by omega, by simp only [List.length_append, List.length_cons, List.length_nil]; omega, S, HK⟩
     case measure => omega
   | false =>
     have S := qh (show S1 w0 w wx br c A L res (elseS bd 62 (p1, p2) (acc ++ [c0, y])) j4 from S.out)
     have hac2 : (acc ++ [c0, y]).length ≤ 2 * j3 + 2 := by simp only [List.length_append, List.length_cons, List.length_nil]; omega
     have hj4 := hj4.1
     generalize acc ++ [c0, y] = acc at *
     unfold elseS at S
     have hjl6 := S.out.le
     go_wp2_with fail
     (with_reducible refine S.out.eatb HT.out ?_)
     clear S
     intro bv j4 wx hbv hj4 S hg
     have HK := qh (HK.out.grown hg.out hbr nl)
     have hj4 := hj4.1
     go_upto_if 29 with fail
     go_cut [] (fun wc => Hid (∃ acc sv xs J, S1 w0 w wc br c A L res (endS 62 (p1, p2) sNil acc) J ∧ KG w.heap.size w.heap.size wc b ⟨62, (p1, p2), sNil, 0⟩ sv acc xs))
     case first =>
      cases bv with
      | true =>
        go_wp2_with fail
        have HKD := qh (HK.out.below ((Below.refl _ _).drew))
        have HKL := qh HK.out.len
        have D1 := qh ((S.out.below ((Below.refl _ _).drew)).treeD (HBd.out _ (by omega) S.out.le _ (S.out.pg.1.below ((Below.refl _ _).drew))) (hbd))
        obtain ⟨m4, m4f, hbl4⟩ := HK.out.kn.facts
        clear S HK
        go_region_law (first
         | (go_simp; go_at_call 97; (with_reducible refine D1.out.mono ?_); rintro e x (⟨k, rfl, h, hgr⟩ | ⟨y, b_y, j3, rfl, hj3, S, hgr, hr⟩); (case' inl => exact ⟨rfl, S1.errT h.out hgr.out _⟩); have HK := qh (HKD.out.grown hgr.out hbr nl); have HY := qh (show RepS (KPy w.heap.size _ _) _ (forest [y]) [.pointer (some ⟨b_y, 0, none⟩)] from HKD.out.new hr.out nl); obtain ⟨t4, t4f, hbx⟩ := HK.out.kn.facts)
         | (refine step_pushKn (by rfl) _ _ (by rfl) (m := x.heap.size) (n := 1) (vs := [.pointer (some ⟨b_y, 0, none⟩)]) (l := [y]) S.out H0.out HK.out (by omega) (HY.out) (by rfl) (by rfl) (by decide) (by decide) (fun v hv => one_ptr _ v hv) (by rfl) (by rfl) (by rfl) ?_; clear S HK; intro g' cap xs' w7 u4 u4f hb7 S HK))
        all_goals
         go_wp2_with fail
         go_meet
         exact qh ⟨_, _, _, j3, S.out, HK.out⟩
      | false =>
        go_wp2_with fail
        go_meet
        exact qh ⟨acc, _, _, j4, S.out, HK.out⟩
     case rest =>
      obtain ⟨acc2, sv2, xs2, J2, hc1, hc2⟩ := hcut.out
      clear S HK
      clear hcut
      have S := qh hc1
      have HK := qh hc2
      clear hc1 hc2
      unfold endS at S
      go_wp2_with fail
      (with_reducible refine S.out.need HT.out ?_ ?_)
      ·intro k w1 h hg; go_wp2; exact ⟨rfl, S1.errT h.out hg.out _⟩
      clear S
      intro wx S hg
      have HK := qh (HK.out.grown hg.out hbr nl)
      have Hb := qh (HK.out.done nl)
      go_wp2
      go_ret
      exact S.out.doneT Hb.out
theorem cases_y {g : Nat} {w0 : World} {br c : Nat} {A : Option Addr} {L : List PT} (ht : TkS w0 br A L) (hgL : L.length < g) {bd : Par T1} (hbd : Good2 bd) {lo : Nat} (HBd : Hid (TyS 97 bd lo w0 br A c L)) (i : Nat) (hlo : lo ≤ i) (hi : i ≤ L.length) (p1 p2 : Nat) (w : World) (h : PInv w0 w br A c L i) :
 Calls Tryz.prog 109 #[.pointer (some ⟨br, 0, none⟩), .complex .f64 (fl p1) (fl p2)] w (TreeR w.heap.size w0 w br A c L (caseS g bd (p1, p2) L i)) := by
 have hbr := h.row.lt
 have H0 := qh h
 have HT := qh ht
 obtain ⟨res, hs0⟩ : ∃ r, r = caseS g bd (p1, p2) L i := ⟨_, rfl⟩
 rw [← hs0]
 have S := qh (S1.start h hi hs0)
 clear h ht hs0 hi
 go_enter Tryz.func109, Tryz.ntmps109
 unfold caseS at S
 have HZ := qh S.out.pg.2.size
 go_wp2_with fail
 (with_reducible refine S.out.tree (expr_s HT.out hgL _ (by have := S.out.le; have := HT.out.toks.len; omega) _ S.out.pg.1) (g2_expr (g := g)) ?_ ?_)
 ·intro k w1 h hg; go_wp2; exact ⟨rfl, S1.errT h.out hg.out _⟩
 clear S
 intro x bx j0 wx hj0 S hg Hx
 have Hx := qh (Hx.out.more (S' := fun y => w.heap.size ≤ y) fun y hy _ => Nat.le_trans HZ.out hy)
 clear HZ
 have NW := qh (new_1 (B0 := w.heap.size) (w := wx) S.out.pg.2.size 63 63 rfl p1 p2 sNil 0 Hx.out wx.heap.size rfl)
 go_wp2_with fail
 ((with_reducible refine NW.out.mono ?_); rintro e wy ⟨b, sv0, xs0, rfl, hb, hk⟩)
 have HK := qh (hk.lower S.out.pg.2.size)
 have S := qh (S.out.below hb)
 clear hb hk NW Hx
 go_wp2_with fail
 (with_reducible refine S.out.need HT.out ?_ ?_)
 ·intro k w1 h hg; go_wp2; exact ⟨rfl, S1.errT h.out hg.out _⟩
 clear S
 intro wx S hg
 have HK := qh (HK.out.grown hg.out hbr nl)
 have S := qh (show S1 w0 w wx br c A L res (bindP (armsF g bd g [x]) (caseQ bd (p1, p2))) (j0 + 1) from S.out)
 go_wp2_with fail
 go_loopg [] (L.length + 1) (fun gh wr => ∃ (acc : List T1) (sv : Value) (xs : List Value) (j f : Nat), lo ≤ j ∧ L.length + 1 - j ≤ gh ∧ L.length < j + f ∧ acc.length ≤ j ∧ Hid (S1 w0 w wr br c A L res (bindP (armsF g bd f acc) (caseQ bd (p1, p2))) j) ∧ Hid (KG w.heap.size w.heap.size wr b ⟨63, (p1, p2), sNil, 0⟩ sv acc xs))
 case atStart => exact ⟨_, _, _, j0 + 1, g, by omega, by omega, by omega, by simp only [List.length_append, List.length_cons, List.length_nil]; omega, S, HK⟩
 case round =>
  clear S HK
  obtain ⟨acc, sv, xs, j, f, hlj, hgh, hf, hac, S, HK⟩ := hrel
  have hjl := S.out.le
  obtain ⟨f, rfl⟩ : ∃ f', f = f' + 1 := ⟨f - 1, by omega⟩
  have hlen := HT.out.toks.len
  have S := qh (S.out.of (q := posP fun t => if armOut t = true then tokP (tT sBar) (fun _ => bindP (armsF g bd f acc) (caseQ bd (p1, p2))) ((caseQ bd (p1, p2)) acc)
   else bindP (labelsF g) fun l => needF sCol (bindP bd fun b => tokP (tT sBar) (fun _ => bindP (armsF g bd f (acc ++ [mk 28 t.2.1 sNil 0 [l, b]])) (caseQ bd (p1, p2))) ((caseQ bd (p1, p2)) (acc ++ [mk 28 t.2.1 sNil 0 [l, b]])))) (by rw [arms_y1]))
  go_wp2_with fail
  (with_reducible refine S.out.now HT.out ?_)
  clear S
  intro k_s s1 s2 q3_s q4_s t_s n_s wx HPs S hg
  have HK := qh (HK.out.grown hg.out hbr nl)
  go_upto_region 4 with fail
  go_cut [31] (fun v31 wc => ∃ bv : Bool, v31 = .bool (!bv) ∧ Hid (armOut (tk L j) = bv) ∧ Hid (S1 w0 w wc br c A L res (if armOut (tkOf k_s s1 s2 q3_s q4_s t_s n_s) = true then tokP (tT sBar) (fun _ => bindP (armsF g bd f acc) (caseQ bd (p1, p2))) ((caseQ bd (p1, p2)) acc) else bindP (labelsF g) fun l => needF sCol (bindP bd fun b => tokP (tT sBar) (fun _ => bindP (armsF g bd f (acc ++ [mk 28 (s1, s2) sNil 0 [l, b]])) (caseQ bd (p1, p2))) ((caseQ bd (p1, p2)) (acc ++ [mk 28 (s1, s2) sNil 0 [l, b]])))) j ∧ KG w.heap.size w.heap.size wc b ⟨63, (p1, p2), sNil, 0⟩ sv acc xs))
  case first =>
   go_wp2_with fail
   (with_reducible refine S.out.is HT.out ?_)
   clear S
   intro wx S hg
   have HK := qh (HK.out.grown hg.out hbr nl)
   cases hA : isT L j sBar with
   | true =>
     go_wp2_with fail
     go_meet
     exact ⟨true, rfl, qh (by unfold armOut; rw [show tT sBar (tk L j) = true from hA]; rfl), qh ⟨S.out, HK.out⟩⟩
   | false =>
     go_wp2_with fail
     (with_reducible refine S.out.is HT.out ?_)
     clear S
     intro wx S hg
     have HK := qh (HK.out.grown hg.out hbr nl)
     cases hB : isT L j sElse with
     | true =>
       go_wp2_with fail
       go_meet
       exact ⟨true, rfl, qh (by unfold armOut; rw [show tT sElse (tk L j) = true from hB]; simp), qh ⟨S.out, HK.out⟩⟩
     | false =>
       go_wp2_with fail
       (with_reducible refine S.out.is HT.out ?_)
       clear S
       intro wx S hg
       have HK := qh (HK.out.grown hg.out hbr nl)
       cases hC : isT L j sEnd with
       | true =>
         go_wp2_with fail
         go_meet
         exact ⟨true, rfl, qh (by unfold armOut; rw [show tT sEnd (tk L j) = true from hC]; simp), qh ⟨S.out, HK.out⟩⟩
       | false =>
         go_wp2_with fail
         go_meet
         exact ⟨false, rfl, qh (by unfold armOut; rw [show tT sBar (tk L j) = false from hA, show tT sElse (tk L j) = false from hB, show tT sEnd (tk L j) = false from hC]; rfl), qh ⟨S.out, HK.out⟩⟩
  case rest =>
   obtain ⟨bv, rfl, HO_, hc9⟩ := hcut
   clear S HK
   have S := qh hc9.out.1
   have HK := qh hc9.out.2
   clear hc9
   go_upto_if 31 with fail
   go_cut [] (fun wc => Hid (∃ acc sv xs J, j ≤ J ∧ acc.length ≤ J ∧ S1 w0 w wc br c A L res (tokP (tT sBar) (fun _ => bindP (armsF g bd f acc) (caseQ bd (p1, p2))) ((caseQ bd (p1, p2)) acc)) J ∧ KG w.heap.size w.heap.size wc b ⟨63, (p1, p2), sNil, 0⟩ sv acc xs))
   case first =>
    cases bv with
    | true =>
      have S := qh (S.out.yes (by rw [← HPs.out]; exact HO_.out))
      simp only [Bool.not_true]
      go_wp2_with fail
      go_meet
      exact qh ⟨acc, _, _, j, Nat.le_refl _, by omega, S.out, HK.out⟩
    | false =>
      have hO := HO_.out
      simp only [Bool.not_false]
      have S := qh (S.out.no (by rw [← HPs.out, hO]; simp))
      have HZ := qh S.out.pg.2.size
      go_wp2_with fail
      (with_reducible refine S.out.tree (of_L HT.out hgL _ (by have := S.out.le; have := HT.out.toks.len; omega) _ S.out.pg.1) (g2_labels (g := g)) ?_ ?_)
      ·intro k w1 h hg; go_wp2; exact ⟨rfl, S1.errT h.out hg.out _⟩
      clear S
      intro x0 bx0 j1 wx hj1 S hg Hc
      have HC := qh (show RepS (KPy w.heap.size b sv) wx (forest [x0]) [.pointer (some ⟨bx0, 0, none⟩)] from HK.out.new Hc.out nl)
      have HK := qh (HK.out.grown hg.out hbr nl)
      clear HZ Hc
      go_wp2_with fail
      (with_reducible refine S.out.need HT.out ?_ ?_)
      ·intro k w1 h hg; go_wp2; exact ⟨rfl, S1.errT h.out hg.out _⟩
      clear S
      intro wx S hg
      have HK := qh (HK.out.grown hg.out hbr nl)
      have HC := qh (kpy_grown HC.out hg.out hbr)
      go_upto_region 7 with fail
      have HKD := qh (HK.out.below ((Below.refl _ _).drew))
      have HKL := qh HK.out.len
      have D1 := qh ((S.out.below ((Below.refl _ _).drew)).treeD (HBd.out _ (by omega) S.out.le _ (S.out.pg.1.below ((Below.refl _ _).drew))) (hbd))
      have HCD := qh (HC.out.below ((Below.refl _ _).drew))
      have hjl5 := S.out.le
      obtain ⟨m4, m4f, hbl4⟩ := HK.out.kn.facts
      clear S HK
      go_region_law (first
       | (go_simp; go_at_call 97; (with_reducible refine D1.out.mono ?_); rintro e x (⟨k, rfl, h, hgr⟩ | ⟨y, b_y, j3, rfl, hj3, S, hgr, hr⟩); (case' inl => exact ⟨rfl, S1.errT h.out hgr.out _⟩); have HK := qh (HKD.out.grown hgr.out hbr nl); have HY := qh (show RepS (KPy w.heap.size _ _) _ (forest [y]) [.pointer (some ⟨b_y, 0, none⟩)] from HKD.out.new hr.out nl); have HC := qh (kpy_grown HCD.out hgr.out hbr); obtain ⟨t4, t4f, hbx⟩ := HK.out.kn.facts)
       | (go_simp; go_at_call 33; (with_reducible refine (new_iny HK.out nl 28 28 rfl s1 s2 sNil [.pointer (some ⟨bx0, 0, none⟩), .pointer (some ⟨b_y, 0, none⟩)] [x0, y] x.heap.size rfl 2 rfl (by decide) (rep2_y HC.out HY.out)).mono ?_); rintro e w6 ⟨b6, rfl, hb, hr⟩; have HR := qh (show RepS (KPy w.heap.size _ _) _ (forest [mk 28 (s1, s2) sNil 0 [x0, y]]) [.pointer (some ⟨b6, 0, none⟩)] from hr); have S := qh (S.out.below hb); have HK := qh (HK.out.below hb); clear hb hr; obtain ⟨r4, r4f, hb6⟩ := HK.out.kn.facts)
       | (refine step_pushKn (by rfl) _ _ (by rfl) (m := w6.heap.size) (n := 1) (vs := [.pointer (some ⟨b6, 0, none⟩)]) (l := [mk 28 (s1, s2) sNil 0 [x0, y]]) S.out H0.out HK.out (by omega) (HR.out) (by rfl) (by rfl) (by decide) (by decide) (fun v hv => one_ptr _ v hv) (by rfl) (by rfl) (by rfl) ?_; clear S HK; intro g' cap xs' w7 u4 u4f hb7 S HK))
      all_goals
       have hjl3 := S.out.le
       go_wp2_with fail
       go_meet
       exact qh ⟨_, _, _, j3, by omega, by simp only [List.length_append, List.length_cons, List.length_nil]; omega, S.out, HK.out⟩
   case rest =>
    obtain ⟨acc, sv, xs, J, hjJ, hac, hc1, hc2⟩ := hcut.out
    clear S HK HPs HO_
    clear hcut
    have S := qh hc1
    have HK := qh hc2
    clear hc1 hc2
    go_wp2_with fail
    (with_reducible refine S.out.eatb HT.out ?_)
    clear S
    intro bv j4 wx hbv hj4 S hg
    have HK := qh (HK.out.grown hg.out hbr nl)
    cases bv with
    | true =>
      have hjl := S.out.le
      have hj5 := hj4.2 rfl
      go_wp2
      go_roundg (L.length + 1 - j4)
      case rel => exact ⟨_, _, _, j4, f, by omega, by omega, by omega, by omega, S, HK⟩
      case measure => omega
    | false =>
      have hj4 := hj4.1
      go_wp2_with fail
      (with_reducible refine S.out.now' HT.out ?_)
      clear S
      intro k_s s1 s2 q3_s q4_s t_s n_s wx HPs S hg
      have HK := qh (HK.out.grown hg.out hbr nl)
      unfold caseQ at S
      have hjl6 := S.out.le
      go_wp2_with fail
      (with_reducible refine S.out.eatb HT.out ?_)
      clear S
      intro bv j5 wx hbv hj5 S hg
      have HK := qh (HK.out.grown hg.out hbr nl)
      have hj5 := hj5.1
      go_upto_if 58 with fail
      go_cut [] (fun wc => Hid (∃ acc sv xs J, S1 w0 w wc br c A L res (endS 63 (p1, p2) sNil acc) J ∧ KG w.heap.size w.heap.size wc b ⟨63, (p1, p2), sNil, 0⟩ sv acc xs))
      case first =>
       cases bv with
       | true =>
         have S := qh (show S1 w0 w wx br c A L res (bindP bd fun b => endS 63 (p1, p2) sNil (acc ++ [mk 30 (s1, s2) sNil 0 [b]])) j5 from by have h := S.out; dsimp only at h; rw [HPs.out] at h; exact h)
         go_wp2_with fail
         have HKD := qh (HK.out.below ((Below.refl _ _).drew))
         have HKL := qh HK.out.len
         have D1 := qh ((S.out.below ((Below.refl _ _).drew)).treeD (HBd.out _ (by omega) S.out.le _ (S.out.pg.1.below ((Below.refl _ _).drew))) (hbd))
         obtain ⟨m4, m4f, hbl4⟩ := HK.out.kn.facts
         clear S HK
         go_region_law (first
          | (go_simp; go_at_call 97; (with_reducible refine D1.out.mono ?_); rintro e x (⟨k, rfl, h, hgr⟩ | ⟨y, b_y, j3, rfl, hj3, S, hgr, hr⟩); (case' inl => exact ⟨rfl, S1.errT h.out hgr.out _⟩); have HK := qh (HKD.out.grown hgr.out hbr nl); have HY := qh (show RepS (KPy w.heap.size _ _) _ (forest [y]) [.pointer (some ⟨b_y, 0, none⟩)] from HKD.out.new hr.out nl); obtain ⟨t4, t4f, hbx⟩ := HK.out.kn.facts)
          | (go_simp; go_at_call 33; (with_reducible refine (new_iny HK.out nl 30 30 rfl s1 s2 sNil [.pointer (some ⟨b_y, 0, none⟩)] [y] x.heap.size rfl 1 rfl (by decide) (HY.out)).mono ?_); rintro e w6 ⟨b6, rfl, hb, hr⟩; have HR := qh (show RepS (KPy w.heap.size _ _) _ (forest [mk 30 (s1, s2) sNil 0 [y]]) [.pointer (some ⟨b6, 0, none⟩)] from hr); have S := qh (S.out.below hb); have HK := qh (HK.out.below hb); clear hb hr; obtain ⟨r4, r4f, hb6⟩ := HK.out.kn.facts)
          | (refine step_pushKn (by rfl) _ _ (by rfl) (m := w6.heap.size) (n := 1) (vs := [.pointer (some ⟨b6, 0, none⟩)]) (l := [mk 30 (s1, s2) sNil 0 [y]]) S.out H0.out HK.out (by omega) (HR.out) (by rfl) (by rfl) (by decide) (by decide) (fun v hv => one_ptr _ v hv) (by rfl) (by rfl) (by rfl) ?_; clear S HK; intro g' cap xs' w7 u4 u4f hb7 S HK))
         all_goals
          go_wp2_with fail
          go_meet
          exact qh ⟨_, _, _, j3, S.out, HK.out⟩
       | false =>
         go_wp2_with fail
         go_meet
         exact qh ⟨acc, _, _, j5, S.out, HK.out⟩
      case rest =>
       obtain ⟨acc2, sv2, xs2, J2, hc1, hc2⟩ := hcut.out
       clear S HK
       clear hcut
       have S := qh hc1
       have HK := qh hc2
       clear hc1 hc2
       unfold endS at S
       go_wp2_with fail
       (with_reducible refine S.out.need HT.out ?_ ?_)
       ·intro k w1 h hg; go_wp2; exact ⟨rfl, S1.errT h.out hg.out _⟩
       clear S
       intro wx S hg
       have HK := qh (HK.out.grown hg.out hbr nl)
       have Hb := qh (HK.out.done nl)
       go_wp2
       go_ret
       exact S.out.doneT Hb.out
end St
end Go.Proofs.YtkemhmfdooghkaaGreatDoor
