import Derived.Test.YtkemhmfdooghkaaGreatDoorX27
set_option linter.unusedSimpArgs false
set_option linter.unusedVariables false
set_option maxRecDepth 100000
set_option maxHeartbeats 6400000
namespace Go.Proofs.YtkemhmfdooghkaaGreatDoor
namespace De
open Go.RowKit
open Tr (Nd Fo RepS RepN Rep cellsN)
open Lx (Tk noTk Blk run_store_complexL TokAt)
open Fl
open Ex
open St (TkS g2_max g2_expr g2_labels Good2 isNm KG KN new_kg new_0 kid_facts one_ptr bind_ok bind_err need_y need_n tok_y tok_n ret_ add_block sSem sCol sEnd sOf sBar sElse sCase sTo armOut isWd6)
attribute [local go_sem] run_store_complexL run_field0 run_field1 run_field3
section
variable {g : Nat} {sep : ByteArray} {nm : Bool}
def parL (g : Nat) (sep : ByteArray) (nm : Bool) (f : Nat) (acc : List T1) : Par (List T1) := fun M k => if acc = [] ∧ isT M k sRap = true then ansF g acc M k else bindP (parsR g sep nm f acc) (ansF g) M k
theorem parL_start {L : List PT} {j : Nat} : (posP fun t => if tT sRap t = true then ansF g [] else bindP (parsR g sep nm g []) (ansF g)) L j = parL g sep nm g [] L j := by
 unfold parL posP
 dsimp only
 by_cases h : tT sRap (tk L j) = true
 ·rw [if_pos h, if_pos ⟨rfl, h⟩]
 ·rw [if_neg h, if_neg (fun e => h e.2)]
theorem parL_more {f : Nat} {acc : List T1} {L : List PT} {j : Nat} (h : (!(isT L j sRap) || decide (0 < acc.length)) = true) : parL g sep nm f acc L j = bindP (parsR g sep nm f acc) (ansF g) L j := by
 unfold parL
 refine if_neg fun e => ?_
 rw [e.1, e.2] at h
 simp at h
theorem parL_end {f : Nat} {acc : List T1} {L : List PT} {j : Nat} (h : (!(isT L j sRap) || decide (0 < acc.length)) = false) : parL g sep nm f acc L j = ansF g acc L j := by
 unfold parL
 refine if_pos ?_
 cases acc with
 | nil => simpa using h
 | cons => simp at h
def parQ (g : Nat) (sep : ByteArray) (nm : Bool) (f : Nat) (acc : List T1) (x : T1) : Par (List T1) := tokP (tT sep) (fun _ => parL g sep nm f (acc ++ [x])) (ansF g (acc ++ [x]))
theorem parL_snoc {f : Nat} {acc : List T1} {x : T1} : parL g sep nm f (acc ++ [x]) = bindP (parsR g sep nm f (acc ++ [x])) (ansF g) := by
 funext L j
 exact parL_more (by simp)
theorem pars_step {f : Nat} {acc : List T1} : bindP (parsR g sep nm (f + 1) acc) (ansF g) = posP fun t => tokP (tT sVar) (fun _ => bindP (paramB g nm t.2.1 1) (parQ g sep nm f acc)) (bindP (paramB g nm t.2.1 0) (parQ g sep nm f acc)) := by
 have h : (parQ g sep nm f acc) = fun x => bindP (tokP (tT sep) (fun _ => parsR g sep nm f (acc ++ [x])) (retP (acc ++ [x]))) (ansF g) := by
  funext x
  unfold parQ
  rw [bind_tok, bind_ret]
  simp only [parL_snoc]
 rw [parsR, bind_assoc, ← h]
 unfold paramF
 rw [bind_pos]
 simp only [bind_tok]
end
theorem params_any {g : Nat} (sep : ByteArray) (nm : Bool) {w0 : World} {br c : Nat} {A : Option Addr} {L : List PT} (ht : TkS w0 br A L) (hgL : L.length < g) (i : Nat) (hi : i ≤ L.length) (w : World) (h : PInv w0 w br A c L i) :
 Calls Tryz.prog 125 #[.pointer (some ⟨br, 0, none⟩), .string sep, .bool nm] w (NilR w.heap.size w0 w br A c L (paramsF g sep nm L i)) := by
 have hbr := h.row.lt
 have H0 := qh h
 have HT := qh ht
 obtain ⟨res, hs0⟩ : ∃ r, r = paramsF g sep nm L i := ⟨_, rfl⟩
 rw [← hs0]
 have S := qh (S1.start h hi hs0)
 clear h ht hs0 hi
 go_enter Tryz.func125, Tryz.ntmps125
 unfold paramsF at S
 go_wp2_with fail
 (with_reducible refine S.out.eat HT.out ?_ ?_)
 ·clear S
  intro wx S hg hT
  have S := qh (S.out.of parL_start)
  go_upto_block 0 with fail
  go_cut [6] (fun lv wc => Hid (∃ acc xs j, acc.length ≤ 900000 ∧ S1 w0 w wc br c A L res (ansF g acc) j ∧ LG w.heap.size wc lv acc xs))
  case first =>
   go_wp2_with fail
   go_loopg [6] (L.length + 1) (fun gh sv wr => ∃ (lv : Value) (acc : List T1) (xs : List Value) (j f : Nat), lv = sv ∧ j ≤ L.length ∧ L.length + 1 - j ≤ gh ∧ L.length < j + f ∧ acc.length ≤ j ∧ Hid (S1 w0 w wr br c A L res (parL g sep nm f acc) j) ∧ Hid (LG w.heap.size wr lv acc xs))
   case atStart => exact ⟨_, [], [], i + 1, g, rfl, S.out.le, by omega, by omega, Nat.zero_le _, S, qh (LG.nil _ _)⟩
   case round =>
    clear S
    obtain ⟨lv, acc, xs, j, f, rfl, hj, hgh, hf, hac, HB, HG⟩ := hrel
    obtain ⟨f, rfl⟩ : ∃ f', f = f' + 1 := ⟨f - 1, by omega⟩
    have hbo : br < wr.heap.size := HB.out.pg.1.row.lt
    obtain ⟨A7, c7, rfl, _⟩ := HG.out.form
    have hlen := HT.out.toks.len
    go_upto_region 3 with fail
    go_cut [20] (fun cv wc => ∃ bv : Bool, cv = .bool bv ∧ Hid (bv = (!(isT L j sRap) || decide (0 < acc.length))) ∧ Hid (wr.grownBy wc (some br)) ∧ Hid (S1 w0 w wc br c A L res (parL g sep nm (f + 1) acc) j))
    case first =>
     go_wp2_with fail
     (with_reducible refine HB.out.is HT.out rfl ?_)
     intro wx S hg
     cases hR : isT L j sRap with
     | false =>
       go_wp2_with fail
       go_meet
       exact ⟨_, rfl, qh (by simp [hR]), hg, S⟩
     | true =>
       go_wp2_with fail
       go_meet
       exact ⟨_, rfl, qh (by simp [hR]), hg, S⟩
    case rest =>
     obtain ⟨bv, rfl, HC, hg, S⟩ := hcut
     have HG := qh (HG.out.grown hg.out hbr)
     clear HB hg
     have HB := S
     clear S
     obtain ⟨wo, rfl⟩ : ∃ wo : World, wo = wc := ⟨_, rfl⟩
     cases bv with
     | false =>
       have S := qh (HB.out.of (parL_end HC.out.symm))
       go_wp2_with fail
       go_meet
       exact qh ⟨_, _, _, by omega, S.out, HG.out⟩
     | true =>
       have HC := qh HC.out.symm
       have hbo : br < wo.heap.size := HB.out.pg.1.row.lt
       have HO := qh HB.out.pg.1
       have S := qh ((HB.out.of (parL_more HC.out)).base.of (q := posP fun t => tokP (tT sVar) (fun _ => bindP (paramB g nm t.2.1 1) (parQ g sep nm f acc)) (bindP (paramB g nm t.2.1 0) (parQ g sep nm f acc))) (by rw [pars_step]))
       go_wp2_with fail
       (with_reducible refine S.out.now HT.out ?_)
       clear S
       intro k_p p1 p2 q3_p q4_p t_p n_p wx HPp S hg
       have NW := qh (new_0 (B0 := wo.heap.size) (w := wx) S.out.pg.2.size 34 34 rfl p1 p2 sNil 0)
       go_wp2_with fail
       ((with_reducible refine NW.out.mono ?_); rintro e wy ⟨bi, sv0, xs0, rfl, hb, hk⟩)
       have HK := qh (hk.lower S.out.pg.2.size)
       have S := qh (S.out.below hb)
       clear hb hk NW
       go_wp2_with fail
       (with_reducible refine S.out.eatb HT.out ?_)
       clear S
       intro bv j1 wx hbv hj1 S hg
       have HK := qh (HK.out.grown hg.out hbo nl)
       have hj1 := hj1.1
       go_upto_if 26 with fail
       go_cut [] (fun wc => Hid (∃ (n : Int), S1 w0 wo wc br c A L res (bindP (paramB g nm (p1, p2) n) (parQ g sep nm f acc)) j1 ∧ KG wo.heap.size wo.heap.size wc bi ⟨34, (p1, p2), sNil, n⟩ sv0 [] xs0))
       case first =>
        cases bv with
        | true =>
          obtain ⟨z3, z3f⟩ := KG.f3 HK.out
          have hbil := HK.out.kn.blk.lt
          go_wp2_with fail
          go_meet
          exact qh ⟨1, S.out.far HO.out HK.out.kn.low 3 (.int .i64 1), KG.cell_set HK.out 3 (.int .i64 1) ⟨34, (p1, p2), sNil, 1⟩ rfl⟩
        | false =>
          go_wp2_with fail
          go_meet
          exact qh ⟨0, S.out, HK.out⟩
       case rest =>
        obtain ⟨n, hc1, hc2⟩ := hcut.out
        clear S HK hcut hbv
        have S := qh hc1
        have HK := qh hc2
        clear hc1 hc2
        go_upto_if 30 with fail
        go_cut [] (fun wc => Hid (∃ (l : List T1) (sv : Value) (xs : List Value) (j2 : Nat), j1 ≤ j2 ∧ l.length ≤ 1000000 ∧ S1 w0 wo wc br c A L res (bindP (formalF g) fun y => (parQ g sep nm f acc) (mk 34 (p1, p2) sNil n (l ++ [y]))) j2 ∧ KG wo.heap.size wo.heap.size wc bi ⟨34, (p1, p2), sNil, n⟩ sv l xs))
        case first =>
         cases nm with
         | true =>
           have S := qh (S.out.of (q := bindP (namesF g []) (fun l => needF sCol (bindP (formalF g) fun y => parQ g sep true f acc (mk 34 (p1, p2) sNil n (l ++ [y]))))) (by rw [paramB_t]))
           have hni := HK.out.kn.blk.lt
           have hwc := S.out.pg.2.size
           have HZ := qh S.out.pg.2.size
           go_wp2_with fail
           (with_reducible refine S.out.list (names_any HT.out hgL _ S.out.le _ S.out.pg.1) (g2_names g []) ?_ ?_)
           ·intro k w1 h hg; go_wp2; exact ⟨rfl, S1.errN h.out (grown_trans HB.out.pg.2 hg.out) _⟩
           clear S
           intro l svl xsl j2 wx HEl hj2 S hg Hl
           have HK := qh (HK.out.grown hg.out hbo nl)
           have hll := names_len HEl.out
           have hjl := S.out.le
           have hlen := HT.out.toks.len
           obtain ⟨A', c', rfl, _⟩ := Hl.out.form
           obtain ⟨m4, m4f, hbl4⟩ := HK.out.kn.facts
           have HL := qh (KG.kids HK.out Hl.out hni HZ.out HZ.out)
           have S := qh (S.out.far HO.out HK.out.kn.low 4 (.slice A' l.length c'))
           have HK := HL
           clear HL Hl HZ HEl
           go_wp2_with fail
           (with_reducible refine S.out.need HT.out (m := wx.heap.size) (by rw [World.size_setCell]) ?_ ?_)
           ·intro k w1 h hg; go_wp2; exact ⟨rfl, S1.errN h.out (grown_trans HB.out.pg.2 hg.out) _⟩
           clear S
           intro wx S hg
           have HK := qh (HK.out.grown hg.out hbo nl)
           go_wp2_with fail
           go_meet
           exact qh ⟨l, _, _, j2 + 1, by omega, by simp at hll; omega, S.out, HK.out⟩
         | false =>
           have S := qh (S.out.of (q := bindP (formalF g) (fun y => parQ g sep false f acc (mk 34 (p1, p2) sNil n ([] ++ [y])))) (by rw [paramB_f]; rfl))
           go_wp2_with fail
           go_meet
           exact qh ⟨[], _, _, j1, Nat.le_refl _, by simp, S.out, HK.out⟩
        case rest =>
         obtain ⟨l, sv, xs2, j2, hj2, hll, hc1, hc2⟩ := hcut.out
         clear S HK hcut
         have S := qh hc1
         have HK := qh hc2
         clear hc1 hc2
         go_upto_region 10 with fail
         go_cut [] (fun wc => Hid (∃ (y : T1) (j3 : Nat), j2 ≤ j3 ∧ S1 w0 wo wc br c A L res ((parQ g sep nm f acc) (mk 34 (p1, p2) sNil n (l ++ [y]))) j3 ∧ RepS (fun y => wo.heap.size ≤ y) wc (forest [mk 34 (p1, p2) sNil n (l ++ [y])]) [.pointer (some ⟨bi, 0, none⟩)]))
         case first =>
          have D1 := qh ((S.out.below ((Below.refl _ _).drew)).treeD (formal_any HT.out hgL _ S.out.le _ (S.out.pg.1.below ((Below.refl _ _).drew))) (g2_formal (g := g)))
          have HKD := qh (HK.out.below ((Below.refl _ _).drew))
          have HKL := qh HK.out.len
          obtain ⟨m4, m4f, hbl4⟩ := HK.out.kn.facts
          clear S HK
          go_region_law (first
           | (go_simp; go_at_call 147; (with_reducible refine D1.out.mono ?_); rintro e x (⟨k, rfl, h, hgr⟩ | ⟨y, by_, j3, rfl, hj3, S, hgr, hr⟩); (case' inl => exact ⟨rfl, S1.errN h.out (grown_trans HB.out.pg.2 hgr.out) _⟩); have HK := qh (HKD.out.grown hgr.out hbo nl); have HY := qh (HKD.out.new hr.out nl); obtain ⟨t4, t4f, hbx⟩ := HK.out.kn.facts)
           | (refine step_pushK (by rfl) _ _ (by rfl) (m := x.heap.size) (bY := by_) (t := y) S.out HO.out HK.out (by omega) HY.out (by rfl) (by rfl) (by rfl) ?_; clear S HK; intro g' cap xs' w5 s4 s4f hb5 S HK))
          all_goals
           go_wp2_with fail
           go_meet
           exact qh ⟨y, j3, hj3, S.out, KG.done0 HK.out⟩
         case rest =>
          obtain ⟨y, j3, hj3, hc1, hc2⟩ := hcut.out
          clear S HK hcut
          have S := qh hc1
          have HI := qh hc2
          clear hc1 hc2
          have SJ := qh (HB.out.join S.out)
          have HGX := qh (HG.out.grown S.out.pg.2 hbr)
          have HT1 := qh (HG.out.new HI.out HB.out.pg.2.size)
          have hwc := Nat.le_trans HB.out.pg.2.size S.out.pg.2.size
          have hjl := S.out.le
          clear S HI
          go_wp2_with (at_builtin; refine wpList_pushL rfl _ _ rfl (m := wc.heap.size) (t := mk 34 (p1, p2) sNil n (l ++ [y])) SJ.out H0.out nl hwc HGX.out (by omega) HT1.out rfl rfl rfl ?_; clear SJ HGX HT1; intro g1 cap1 xs1 wx S HG hg1; clear hg1)
          clear HB
          unfold parQ at S
          have hlx := HG.out.len
          go_wp2_with fail
          (with_reducible refine S.out.eatb HT.out ?_)
          clear S
          intro bv j4 wx hbv hj4 S hg
          have HG := qh (HG.out.grown hg.out hbr)
          cases bv with
          | true =>
            have hjl := S.out.le
            have hj5 := hj4.2 rfl
            go_wp2
            go_roundg (L.length + 1 - j4)
            case rel => exact ⟨_, _, _, j4, f, by rfl, by omega, by omega, by omega, by simp only [List.length_append, List.length_cons, List.length_nil]; omega, S, HG⟩
            case measure => omega
          | false =>
            go_wp2_with fail
            go_meet
            exact qh ⟨_, _, _, by simp only [List.length_append, List.length_cons, List.length_nil]; omega, S.out, HG.out⟩
  case rest =>
   obtain ⟨acc, xs, j, hac, hc1, hc2⟩ := hcut.out
   clear S hcut
   have S := qh hc1
   have HG := qh hc2
   clear hc1 hc2
   have S := qh (S.out.of (q := needF sRap (tokP (tT sCol) (fun _ => bindP (refF g) fun x => retP (acc ++ [x])) (retP (acc ++ [zeroT])))) rfl)
   obtain ⟨A7, c7, rfl, _⟩ := HG.out.form
   go_wp2_with fail
   (with_reducible refine S.out.need HT.out rfl ?_ ?_)
   ·intro k w1 h hg; go_wp2; exact ⟨rfl, S1.errN h.out hg.out _⟩
   clear S
   intro wx S hg
   have HG := qh (HG.out.grown hg.out hbr)
   go_wp2_with fail
   (with_reducible refine S.out.eat HT.out ?_ ?_)
   ·clear S
    intro wx S hg hT
    have HG := qh (HG.out.grown hg.out hbr)
    have HZ := qh S.out.pg.2.size
    go_wp2_with fail
    (with_reducible refine S.out.tree (ref_any HT.out hgL _ S.out.le _ S.out.pg.1) (g2_ref (g := g)) ?_ ?_)
    ·intro k w1 h hg; go_wp2; exact ⟨rfl, S1.errN h.out hg.out _⟩
    clear S
    intro x bx j1 wx hj1 S hg Hx
    have HX := qh (one1 (HG.out.new Hx.out HZ.out))
    have HG := qh (HG.out.grown hg.out hbr)
    clear HZ Hx
    have hwq := S.out.pg.2.size
    go_wp2_with (at_builtin; refine wpList_pushA rfl _ _ rfl (m := wx.heap.size) (t := x) S.out H0.out nl hwq HG.out (by omega) (HX.out) rfl rfl rfl ?_; clear S; intro g1 cap1 xs1 wy S R)
    go_wp2
    go_ret
    exact S.out.doneN R.out (by omega)
   ·clear S
    intro wx S hg hT
    have HG := qh (HG.out.grown hg.out hbr)
    have hwq := S.out.pg.2.size
    go_wp2_with (at_builtin; refine wpList_pushA rfl _ _ rfl (m := wx.heap.size) (t := zeroT) S.out H0.out nl hwq HG.out (by omega) (zero1) rfl rfl rfl ?_; clear S; intro g1 cap1 xs1 wy S R)
    go_wp2
    go_ret
    exact S.out.doneN R.out (by omega)
 ·clear S
  intro wx S hg hT
  have H9 := qh (S.out.below ((Below.refl _ _).alloc nl (.cells #[.pointer none] 31)))
  go_wp2
  go_ret
  exact H9.out.doneN (l := [zeroT]) ⟨rfl, reads_lit _ _ _, zero1, rfl⟩ (by omega)
end De
namespace De
open Go.RowKit
open Tr (Nd Fo RepS RepN Rep cellsN)
open Lx (Tk noTk Blk run_store_complexL TokAt)
open Fl
open Ex
open St (TkS g2_max g2_expr g2_labels Good2 isNm KG KN new_kg new_0 new_1 kid_facts one_ptr bind_ok bind_err need_y need_n tok_y tok_n ret_ add_block sSem sCol sEnd sOf sBar sElse sCase sTo armOut isWd6)
attribute [local go_sem] run_store_complexL run_field0 run_field1 run_field3
theorem formals_any {g : Nat} {w0 : World} {br c : Nat} {A : Option Addr} {L : List PT} (ht : TkS w0 br A L) (hgL : L.length < g) (i : Nat) (hi : i ≤ L.length) (w : World) (h : PInv w0 w br A c L i) :
 Calls Tryz.prog 124 #[.pointer (some ⟨br, 0, none⟩)] w (NilR w.heap.size w0 w br A c L (paramsF g sCom false L i)) := by
 have hbr := h.row.lt
 have H0 := qh h
 have HT := qh ht
 obtain ⟨res, hs0⟩ : ∃ r, r = paramsF g sCom false L i := ⟨_, rfl⟩
 rw [← hs0]
 have S := qh (S1.start h hi hs0)
 clear h ht hs0 hi
 go_enter Tryz.func124, Tryz.ntmps124
 have S := qh (S.out.of (bind_pure _ _ _))
 go_wp2_with fail
 (with_reducible refine S.out.nilr (params_any sCom false HT.out hgL _ S.out.le _ S.out.pg.1) (g2_params (g := g)) ?_ ?_)
 ·intro k w1 h hg; go_wp2; exact ⟨rfl, S1.errN h.out hg.out _⟩
 clear S
 intro l A' c' xs j1 wx hj1 S hg HN
 go_wp2
 go_ret
 exact S.out.doneN ⟨rfl, HN.out.1, HN.out.2.1, HN.out.2.2.1⟩ HN.out.2.2.2
def HeadR (B : Nat) (w0 w : World) (br : Nat) (A : Option Addr) (c : Nat) (L : List PT) (r : Except Nat (T1 × Nat)) (e : Ending) (w' : World) : Prop := match r with
 | .ok (x, j) => ∃ b d sv acc xs, x = (d, forest acc) ∧ acc.length ≤ 1000 ∧ e = .returned (.pointer (some ⟨b, 0, none⟩)) ∧ PInv w0 w' br A c L j ∧ w.grownBy w' (some br) ∧ KG B B w' b d sv acc xs
 | .error k => e = bad k ∧ w.grownBy w' (some br)
section
variable {β : Type} {w0 w wx w1 : World} {br c j : Nat} {A : Option Addr} {L : List PT} {K : Ending → World → Prop}
theorem S1.errH {res : Except Nat (T1 × Nat)} {k : Nat} (h : res = .error k) (hg : w.grownBy w1 (some br)) (B : Nat) : HeadR B w0 w br A c L res (bad k) w1 := by
 rw [h]; exact ⟨rfl, hg⟩
theorem S1.doneH {x : T1} {b : Nat} {d : Nd} {sv : Value} {acc : List T1} {xs : List Value} {res : Except Nat (T1 × Nat)} (S : S1 w0 w wx br c A L res (retP x) j) (h : KG w.heap.size w.heap.size wx b d sv acc xs) (hx : x = (d, forest acc)) (hl : acc.length ≤ 1000) : HeadR w.heap.size w0 w br A c L res (.returned (.pointer (some ⟨b, 0, none⟩))) wx := by
 rw [S.eq]
 exact ⟨b, d, sv, acc, xs, hx, hl, rfl, S.pg.1, S.pg.2, h⟩
theorem S1.head {res : Except Nat (β × Nat)} {P : Par T1} {q : T1 → Par β} {F : Nat} {args : Array Value} (S : S1 w0 w wx br c A L res (bindP P q) j) (D : Calls Tryz.prog F args wx (HeadR wx.heap.size w0 wx br A c L (P L j))) (G : Good2 P) (E : EK res w br K)
 (C : ∀ d b sv acc xs j' w', acc.length ≤ 1000 → j ≤ j' → Hid (S1 w0 w w' br c A L res (q (d, forest acc)) j') → Hid (wx.grownBy w' (some br)) → Hid (KG wx.heap.size wx.heap.size w' b d sv acc xs) → K (.returned (.pointer (some ⟨b, 0, none⟩))) w') :
 Calls Tryz.prog F args wx K := by
 have hm := g2_max G L j
 cases hx : P L j with
 | error k =>
   rw [hx] at D
   refine D.mono ?_
   rintro e w' ⟨rfl, hb⟩
   exact E k w' (qh (S.eq.trans (bind_err hx))) (qh (grown_trans S.pg.2 hb))
 | ok r =>
   obtain ⟨x, j'⟩ := r
   rw [hx] at D hm
   refine D.mono ?_
   rintro e w' ⟨b, d, sv, acc, xs, rfl, hl, rfl, hp, hg, hr⟩
   exact C d b sv acc xs j' w' hl hm.1 (qh ⟨S.pg.trans ⟨hp, hg⟩, S.eq.trans (bind_ok hx), hm.2.1 S.le⟩) (qh hg) (qh hr)
end
theorem heading_any {g : Nat} {w0 : World} {br c : Nat} {A : Option Addr} {L : List PT} (ht : TkS w0 br A L) (hgL : L.length < g) (i : Nat) (hi : i ≤ L.length) (w : World) (h : PInv w0 w br A c L i) :
 Calls Tryz.prog 102 #[.pointer (some ⟨br, 0, none⟩)] w (HeadR w.heap.size w0 w br A c L (headingF g L i)) := by
 have hbr := h.row.lt
 have H0 := qh h
 have HT := qh ht
 obtain ⟨res, hs0⟩ : ∃ r, r = headingF g L i := ⟨_, rfl⟩
 rw [← hs0]
 have S := qh (S1.start h hi hs0)
 clear h ht hs0 hi
 go_enter Tryz.func102, Tryz.ntmps102
 unfold headingF at S
 go_wp2_with fail
 (with_reducible refine S.out.now HT.out ?_)
 clear S
 intro k_p p1 p2 q3_p q4_p t_p n_p wx HPp S hg
 go_wp2_with fail
 (with_reducible refine S.out.need HT.out rfl ?_ ?_)
 ·intro k w1 h hg; go_wp2; exact ⟨rfl, S1.errH h.out hg.out _⟩
 clear S
 intro wx S hg
 have hbt := Nat.lt_of_lt_of_le hbr S.out.pg.2.size
 go_wp2_with fail
 (with_reducible refine S.out.name HT.out ?_ ?_)
 ·intro k w1 h hg; go_wp2; exact ⟨rfl, S1.errH h.out hg.out _⟩
 clear S
 intro k_n n1 n2 q3_n q4_n t_n n_n wx S hg
 have hbt := S.out.pg.1.row.lt
 have HBt := qh (Blk.new wx 40 #[.int .u8 k_n, .complex .f64 (fl n1) (fl n2), .complex .f64 (fl q3_n) (fl q4_n), .string t_n, .int .i64 n_n])
 have S := qh (S.out.below ((Below.refl _ _).alloc nl (.cells #[.int .u8 k_n, .complex .f64 (fl n1) (fl n2), .complex .f64 (fl q3_n) (fl q4_n), .string t_n, .int .i64 n_n] 40)))
 go_upto_region 4 with fail
 generalize wx.heap.size = bt at *
 generalize wx.alloc (.cells #[.int .u8 k_n, .complex .f64 (fl n1) (fl n2), .complex .f64 (fl q3_n) (fl q4_n), .string t_n, .int .i64 n_n] 40) = wy at *
 have S := qh (S.out.below ((Below.refl _ _).drew))
 have HBt := qh (HBt.out.drewN 1)
 have t3 : wy.drew.cell? ⟨bt, 3, none⟩ = some (.string t_n) := HBt.out.cell 3
 have HZ := qh S.out.pg.2.size
 have D1 := qh (S.out.nilrD (params_any sSem true HT.out hgL _ S.out.le _ S.out.pg.1) (g2_params (g := g)))
 clear S
 go_region_law (first
  | (go_simp; go_at_call 125; (with_reducible refine D1.out.mono ?_); rintro e x (⟨k, rfl, h, hgr⟩ | ⟨l, A', c', xs, j2, rfl, hj2, S, hgr, HN⟩); (case' inl => exact ⟨rfl, S1.errH h.out hgr.out _⟩); have HB2 := qh (HBt.out.grown hgr.out (by intro e; injection e with e; omega)); have t3 : x.cell? ⟨bt, 3, none⟩ = some (.string t_n) := HB2.out.cell 3)
  | (go_simp; go_at_call 33; (with_reducible refine (new_nr (B := w.heap.size) (w := x) S.out.pg.2.size 33 33 rfl p1 p2 sNil 0 HN.out HZ.out).mono ?_); rintro e x2 ⟨b2, rfl, hb, hr⟩; have S := qh (S.out.below hb); have HR := qh hr; have HB3 := qh (HB2.out.below hb HB2.out.lt); clear hb hr; have t3 : x2.cell? ⟨bt, 3, none⟩ = some (.string t_n) := HB3.out.cell 3; have t3b : (x2.alloc (.cells #[.pointer (some ⟨b2, 0, none⟩)] 31)).cell? ⟨bt, 3, none⟩ = some (.string t_n) := (HB3.out.below ((Below.refl _ _).alloc nl _) HB3.out.lt).cell 3)
  | (go_simp; go_at_call 33; (with_reducible refine (new_1 (B0 := w.heap.size) (w := x2) S.out.pg.2.size 43 43 rfl p1 p2 t_n 0 (x := mk 33 (p1, p2) sNil 0 l) HR.out x2.heap.size rfl).mono ?_); rintro e x3 ⟨b3, sv3, xs3, rfl, hb, hk⟩; have HK := qh (hk.lower S.out.pg.2.size); have S := qh (S.out.below hb); clear hb hk))
 all_goals
  go_wp2
  go_ret
  exact S.out.doneH (acc := [mk 33 (p1, p2) sNil 0 l]) HK.out rfl (by simp)
end De
namespace De
open Go.RowKit
open Tr (Nd Fo RepS RepN Rep cellsN)
open Lx (Tk noTk Blk run_store_complexL TokAt)
open Fl
open Ex
open St (TkS g2_max g2_expr g2_labels Good2 isNm KG KN new_kg new_0 kid_facts one_ptr bind_ok bind_err need_y need_n tok_y tok_n ret_ add_block sSem sCol sEnd sOf sBar sElse sCase sTo armOut isWd6)
attribute [local go_sem] run_store_complexL run_field0 run_field1 run_field3
abbrev TyOK (F : Nat) (p : Par T1) (lo : Nat) (w0 : World) (br : Nat) (A : Option Addr) (c : Nat) (L : List PT) : Prop :=
 ∀ j, lo ≤ j → j ≤ L.length → ∀ w, PInv w0 w br A c L j → Calls Tryz.prog F #[.pointer (some ⟨br, 0, none⟩)] w (TreeR w.heap.size w0 w br A c L (p L j))
def PartOK (pb : Bool) (F : Nat) (p : Par T1) (lo : Nat) (w0 : World) (br : Nat) (A : Option Addr) (c : Nat) (L : List PT) : Prop := pb = true → TyOK F p lo w0 br A c L
theorem PartOK.get {F lo br c : Nat} {p : Par T1} {w0 : World} {A : Option Addr} {L : List PT} (h : PartOK true F p lo w0 br A c L) : TyOK F p lo w0 br A c L := h rfl
def ListB (B : Nat) (w0 w : World) (br : Nat) (A : Option Addr) (c : Nat) (L : List PT) (r : Except Nat (List T1 × Nat)) (e : Ending) (w' : World) : Prop := ListR B w0 w br A c L r e w' ∧ ∀ l j, r = .ok (l, j) → l.length ≤ 100000
section
variable {β : Type} {w0 w wx w1 : World} {br c j : Nat} {A : Option Addr} {L : List PT} {K : Ending → World → Prop}
theorem S1.errB {res : Except Nat (List T1 × Nat)} {k : Nat} (h : res = .error k) (hg : w.grownBy w1 (some br)) (B : Nat) : ListB B w0 w br A c L res (bad k) w1 := ⟨S1.errL h hg B, fun l j e => by rw [h] at e; cases e⟩
theorem S1.doneB {l : List T1} {sv : Value} {xs : List Value} {res : Except Nat (List T1 × Nat)} (S : S1 w0 w wx br c A L res (retP l) j) (h : LG w.heap.size wx sv l xs) (hl : l.length ≤ 100000) : ListB w.heap.size w0 w br A c L res (.returned sv) wx :=
 ⟨S.doneL h, fun l' j' e => by rw [S.eq] at e; injection e with e; injection e with e _; subst e; exact hl⟩
theorem S1.listB {res : Except Nat (β × Nat)} {P : Par (List T1)} {q : List T1 → Par β} {F : Nat} {args : Array Value} (S : S1 w0 w wx br c A L res (bindP P q) j) (D : Calls Tryz.prog F args wx (ListB wx.heap.size w0 wx br A c L (P L j))) (G : Good2 P) (E : EK res w br K)
 (C : ∀ l A' c' xs j' w', l.length ≤ 100000 → j ≤ j' → Hid (S1 w0 w w' br c A L res (q l) j') → Hid (wx.grownBy w' (some br)) → Hid (LG wx.heap.size w' (.slice A' l.length c') l xs) → K (.returned (.slice A' l.length c')) w') :
 Calls Tryz.prog F args wx K := by
 have hm := g2_max G L j
 cases hx : P L j with
 | error k =>
   rw [hx] at D
   refine D.mono ?_
   rintro e w' ⟨⟨rfl, hb⟩, _⟩
   exact E k w' (qh (S.eq.trans (bind_err hx))) (qh (grown_trans S.pg.2 hb))
 | ok r =>
   obtain ⟨x, j'⟩ := r
   rw [hx] at D hm
   refine D.mono ?_
   rintro e w' ⟨⟨sv, xs, rfl, hp, hg, hr⟩, hn⟩
   obtain ⟨A', c', rfl, _⟩ := hr.form
   exact C x A' c' xs j' w' (hn x j' rfl) hm.1 (qh ⟨S.pg.trans ⟨hp, hg⟩, S.eq.trans (bind_ok hx), hm.2.1 S.le⟩) (qh hg) (qh hr)
theorem S1.listBD {res : Except Nat (β × Nat)} {P : Par (List T1)} {q : List T1 → Par β} {F : Nat} {args : Array Value} (S : S1 w0 w wx br c A L res (bindP P q) j) (D : Calls Tryz.prog F args wx (ListB wx.heap.size w0 wx br A c L (P L j))) (G : Good2 P) :
 Calls Tryz.prog F args wx (fun e w' => (∃ k, e = bad k ∧ Hid (res = .error k) ∧ Hid (w.grownBy w' (some br))) ∨ ∃ l A' c' xs j', e = .returned (.slice A' l.length c') ∧ l.length ≤ 100000 ∧ j ≤ j' ∧ Hid (S1 w0 w w' br c A L res (q l) j') ∧ Hid (wx.grownBy w' (some br)) ∧ Hid (LG wx.heap.size w' (.slice A' l.length c') l xs)) :=
 S.listB D G (fun k w' h hg => .inl ⟨k, rfl, h, hg⟩) (fun l A' c' xs j' w' h1 h2 h3 h4 h5 => .inr ⟨l, A', c', xs, j', rfl, h1, h2, h3, h4, h5⟩)
end
theorem S1.yes {β : Type} {w0 w wx : World} {br c j : Nat} {A : Option Addr} {L : List PT} {res : Except Nat (β × Nat)} {p q : Par β} {k : Prop} [Decidable k] (S : S1 w0 w wx br c A L res (if k then p else q) j) (h : k) : S1 w0 w wx br c A L res p j := by rw [if_pos h] at S; exact S
theorem S1.no {β : Type} {w0 w wx : World} {br c j : Nat} {A : Option Addr} {L : List PT} {res : Except Nat (β × Nat)} {p q : Par β} {k : Prop} [Decidable k] (S : S1 w0 w wx br c A L res (if k then p else q) j) (h : ¬ k) : S1 w0 w wx br c A L res q j := by rw [if_neg h] at S; exact S
theorem fields_any {g : Nat} {w0 : World} {br c : Nat} {A : Option Addr} {L : List PT} (ht : TkS w0 br A L) (hgL : L.length < g) {lo : Nat} {ty pt : Par T1} (hty : Good2 ty) (hpt : Good2 pt) (pb : Bool) (HTy : Hid (TyOK 100 ty lo w0 br A c L)) (HPt : Hid (PartOK pb 145 pt lo w0 br A c L)) (i : Nat) (hlo : lo ≤ i) (hi : i ≤ L.length) (w : World) (h : PInv w0 w br A c L i) :
 Calls Tryz.prog 122 #[.pointer (some ⟨br, 0, none⟩), .bool pb] w (ListB w.heap.size w0 w br A c L (fieldsR g ty pt pb g [] L i)) := by
 have hbr := h.row.lt
 have H0 := qh h
 have HT := qh ht
 obtain ⟨res, hs0⟩ : ∃ r, r = fieldsR g ty pt pb g [] L i := ⟨_, rfl⟩
 rw [← hs0]
 have S := qh (S1.start h hi hs0)
 clear h ht hs0 hi
 go_enter Tryz.func122, Tryz.ntmps122
 go_wp2_with fail
 go_loopg [4] (L.length + 1) (fun gh sv wr => ∃ (lv : Value) (acc : List T1) (xs : List Value) (j f : Nat), lv = sv ∧ lo ≤ j ∧ j ≤ L.length ∧ L.length + 1 - j ≤ gh ∧ L.length < j + f ∧ acc.length ≤ j ∧ Hid (S1 w0 w wr br c A L res (fieldsR g ty pt pb f acc) j) ∧ Hid (LG w.heap.size wr lv acc xs))
 case atStart => exact ⟨_, [], [], i, g, rfl, hlo, S.out.le, by omega, by omega, Nat.zero_le _, S, qh (LG.nil _ _)⟩
 case round =>
  clear S
  obtain ⟨lv, acc, xs, j, f, rfl, hlj, hj, hgh, hf, hac, HB, HG⟩ := hrel
  obtain ⟨f, rfl⟩ : ∃ f', f = f' + 1 := ⟨f - 1, by omega⟩
  have hbo : br < wr.heap.size := HB.out.pg.1.row.lt
  have HO := qh HB.out.pg.1
  have hlen := HT.out.toks.len
  obtain ⟨A7, c7, rfl, _⟩ := HG.out.form
  have S := qh HB.out.base
  unfold fieldsR at S
  go_wp2_with fail
  (with_reducible refine S.out.now HT.out ?_)
  clear S
  intro k_p p1 p2 q3_p q4_p t_p n_p wx HPp S hg
  go_upto_block 2 with fail
  go_cut [4] (fun sv wc => Hid (∃ acc xs J, j ≤ J ∧ acc.length ≤ J ∧ S1 w0 w wc br c A L res (tokP (tT sSem) (fun _ => fieldsR g ty pt pb f acc) (retP acc)) J ∧ LG w.heap.size wc sv acc xs))
  case first =>
   go_wp2_with fail
   (with_reducible refine S.out.named HT.out ?_)
   clear S
   intro wx S hg
   cases hN : isNm (tk L j) with
   | true =>
     have S := qh (S.out.yes (by rw [← HPp.out]; exact hN))
     have HZ := qh S.out.pg.2.size
     go_wp2_with fail
     (with_reducible refine S.out.list (names_any HT.out hgL _ S.out.le _ S.out.pg.1) (g2_names g []) ?_ ?_)
     ·intro k w1 h hg; go_wp2; exact ⟨rfl, S1.errB h.out (grown_trans HB.out.pg.2 hg.out) _⟩
     clear S
     intro l svl xsl j1 wx HEl hj1 S hg Hl
     have Hl := qh (Hl.out.lower HZ.out)
     clear HZ
     have hll := names_len HEl.out
     have hjl := S.out.le
     have hlen := HT.out.toks.len
     clear HEl
     go_wp2_with fail
     (with_reducible refine S.out.need HT.out rfl ?_ ?_)
     ·intro k w1 h hg; go_wp2; exact ⟨rfl, S1.errB h.out (grown_trans HB.out.pg.2 hg.out) _⟩
     clear S
     intro wx S hg
     have Hl := qh (Hl.out.grown hg.out hbo)
     have HZ := qh S.out.pg.2.size
     go_wp2_with fail
     (with_reducible refine S.out.tree (HTy.out _ (by omega) S.out.le _ S.out.pg.1) hty ?_ ?_)
     ·intro k w1 h hg; go_wp2; exact ⟨rfl, S1.errB h.out (grown_trans HB.out.pg.2 hg.out) _⟩
     clear S
     intro x bx j2 wx hj2 S hg Hx
     have HX := qh (Hl.out.new Hx.out HZ.out)
     have Hl := qh (Hl.out.grown hg.out hbo)
     clear HZ Hx
     have hwx := S.out.pg.2.size
     go_wp2_with (at_builtin; refine wpList_pushL rfl _ _ rfl (m := wx.heap.size) (t := x) S.out HO.out nl hwx Hl.out (by simp at hll; omega) HX.out rfl rfl rfl ?_; clear S HX Hl; intro g2 cap2 xs2 wx S Hl hg1; clear hg1)
     have hll2 : (l ++ [x]).length ≤ 1000000 := by simp at hll; simp; omega
     obtain ⟨A9, c9, hsl, _⟩ := Hl.out.form
     have NW := qh (new_lg (B := wr.heap.size) (w := wx) S.out.pg.2.size 26 26 rfl p1 p2 sNil 0 Hl.out (hll2))
     go_wp2_with fail
     ((with_reducible refine NW.out.mono ?_); rintro e wy ⟨b, rfl, hb, hr⟩)
     have Hb := qh hr
     have S := qh (S.out.below hb)
     clear hb hr NW
     have SJ := qh (HB.out.join S.out)
     have HGX := qh (HG.out.grown S.out.pg.2 hbr)
     have HT1 := qh (HG.out.new Hb.out HB.out.pg.2.size)
     have hwc := Nat.le_trans HB.out.pg.2.size S.out.pg.2.size
     have hjl := S.out.le
     clear S Hb
     go_wp2_with (at_builtin; refine wpList_pushL rfl _ _ rfl (m := wy.heap.size) (t := mk 26 (p1, p2) sNil 0 (l ++ [x])) SJ.out H0.out nl hwc HGX.out (by omega) HT1.out rfl rfl rfl ?_; clear SJ HGX HT1; intro g1 cap1 xs1 wx S HG hg1; clear hg1)
     go_wp2_with fail
     go_meet
     exact qh ⟨_, _, j2, by omega, by simp only [List.length_append, List.length_cons, List.length_nil]; omega, S.out, HG.out⟩
   | false =>
     have S := qh (S.out.no (by rw [← HPp.out, hN]; simp))
     cases pb with
     | false =>
       have hgw := qh S.out.pg.2
       have S := qh (HB.out.join (S.out.no (by simp)))
       have HG := qh (HG.out.grown hgw.out hbr)
       go_wp2_with fail
       go_meet
       exact qh ⟨_, _, j, Nat.le_refl _, by omega, S.out, HG.out⟩
     | true =>
       go_wp2_with fail
       (with_reducible refine S.out.is HT.out rfl ?_)
       clear S
       intro wx S hg
       cases hC : isT L j sCase with
       | true =>
         have S := qh (S.out.yes (by rw [← HPp.out, show tT sCase (tk L j) = true from hC]; rfl))
         have HZ := qh S.out.pg.2.size
         go_wp2_with fail
         (with_reducible refine S.out.tree (HPt.out.get _ (by omega) S.out.le _ S.out.pg.1) hpt ?_ ?_)
         ·intro k w1 h hg; go_wp2; exact ⟨rfl, S1.errB h.out (grown_trans HB.out.pg.2 hg.out) _⟩
         clear S
         intro x bx j2 wx hj2 S hg Hx
         have Hx := qh (Hx.out.more (S' := fun y => wr.heap.size ≤ y) fun y hy _ => Nat.le_trans HZ.out hy)
         clear HZ
         have SJ := qh (HB.out.join S.out)
         have HGX := qh (HG.out.grown S.out.pg.2 hbr)
         have HT1 := qh (HG.out.new Hx.out HB.out.pg.2.size)
         have hwc := Nat.le_trans HB.out.pg.2.size S.out.pg.2.size
         have hjl := S.out.le
         clear S Hx
         go_wp2_with (at_builtin; refine wpList_pushL rfl _ _ rfl (m := wx.heap.size) (t := x) SJ.out H0.out nl hwc HGX.out (by omega) HT1.out rfl rfl rfl ?_; clear SJ HGX HT1; intro g1 cap1 xs1 wx S HG hg1; clear hg1)
         go_wp2_with fail
         (with_reducible refine S.out.eat HT.out ?_ ?_)
         ·clear S
          intro wx S hg hT
          have HG := qh (HG.out.grown hg.out hbr)
          go_wp2
          go_ret
          exact S.out.doneB HG.out (by have := S.out.le; simp; omega)
         ·clear S
          intro wx S hg hT
          have HG := qh (HG.out.grown hg.out hbr)
          go_wp2
          go_ret
          exact S.out.doneB HG.out (by have := S.out.le; simp; omega)
       | false =>
         have hgw := qh S.out.pg.2
         have S := qh (HB.out.join (S.out.no (by rw [← HPp.out, show tT sCase (tk L j) = false from hC]; simp)))
         have HG := qh (HG.out.grown hgw.out hbr)
         go_wp2_with fail
         go_meet
         exact qh ⟨_, _, j, Nat.le_refl _, by omega, S.out, HG.out⟩
  case rest =>
   obtain ⟨acc, xs, J, hjJ, hac, hc1, hc2⟩ := hcut.out
   clear S HG
   clear hcut
   have S := qh hc1
   have HG := qh hc2
   clear hc1 hc2
   obtain ⟨A7, c7, rfl, _⟩ := HG.out.form
   go_wp2_with fail
   (with_reducible refine S.out.eatb HT.out ?_)
   clear S
   intro bv j4 wx hbv hj4 S hg
   have HG := qh (HG.out.grown hg.out hbr)
   cases bv with
   | true =>
     have hjl := S.out.le
     have hj5 := hj4.2 rfl
     go_wp2
     go_roundg (L.length + 1 - j4)
     case rel => exact ⟨_, _, _, j4, f, by rfl, by omega, by omega, by omega, by omega, by omega, S, HG⟩
     case measure => omega
   | false =>
     go_wp2
     go_ret
     exact S.out.doneB HG.out (by have := S.out.le; omega)
end De
end Go.Proofs.YtkemhmfdooghkaaGreatDoor
