import Derived.Test.YtkemhmfdooghkaaGreatDoorX29
set_option linter.unusedSimpArgs false
set_option linter.unusedVariables false
set_option maxRecDepth 100000
set_option maxHeartbeats 6400000
namespace Go.Proofs.YtkemhmfdooghkaaGreatDoor
namespace De
open Go.RowKit
open Tr (Nd Fo RepS RepN Rep cellsN)
open Lx (Tk noTk Blk run_store_complexL TokAt)
open Fl
open Ex
open St (TkS g2_max g2_expr g2_labels Good2 isNm KG KN new_kg new_0 kid_facts one_ptr bind_ok bind_err need_y need_n tok_y tok_n ret_ add_block sSem sCol sEnd sOf sBar sElse sCase sTo armOut isWd6)
attribute [local go_sem] run_store_complexL run_field0 run_field1 run_field3
theorem consts_any {g : Nat} (df : Bool) {w0 : World} {br c : Nat} {A : Option Addr} {L : List PT} (ht : TkS w0 br A L) (hgL : L.length < g) (i : Nat) (hi : i ≤ L.length) (w : World) (h : PInv w0 w br A c L i) :
 Calls Tryz.prog 81 #[.pointer (some ⟨br, 0, none⟩), .bool df] w (TreeR w.heap.size w0 w br A c L (constF g L i)) := by
 have hbr := h.row.lt
 have H0 := qh h
 have HT := qh ht
 obtain ⟨res, hs0⟩ : ∃ r, r = constF g L i := ⟨_, rfl⟩
 rw [← hs0]
 have S := qh (S1.start h hi hs0)
 clear h ht hs0 hi
 go_enter Tryz.func81, Tryz.ntmps81
 unfold constF at S
 go_wp2_with fail
 (with_reducible refine S.out.name HT.out ?_ ?_)
 ·intro k w1 h hg; go_wp2; exact ⟨rfl, S1.errT h.out hg.out _⟩
 clear S
 intro k_n n1 n2 q3_n q4_n t_n n_n wx S hg
 have hbt := S.out.pg.1.row.lt
 have HBt := qh (Blk.new wx 40 #[.int .u8 k_n, .complex .f64 (fl n1) (fl n2), .complex .f64 (fl q3_n) (fl q4_n), .string t_n, .int .i64 n_n])
 have S := qh (S.out.below ((Below.refl _ _).alloc nl (.cells #[.int .u8 k_n, .complex .f64 (fl n1) (fl n2), .complex .f64 (fl q3_n) (fl q4_n), .string t_n, .int .i64 n_n] 40)))
 go_upto_region 2 with fail
 generalize wx.heap.size = bt at *
 generalize wx.alloc (.cells #[.int .u8 k_n, .complex .f64 (fl n1) (fl n2), .complex .f64 (fl q3_n) (fl q4_n), .string t_n, .int .i64 n_n] 40) = wy at *
 go_wp2_with fail
 (with_reducible refine S.out.need HT.out rfl ?_ ?_)
 ·intro k w1 h hg; go_wp2; exact ⟨rfl, S1.errT h.out hg.out _⟩
 clear S
 intro wx S hg
 have HBt := qh (HBt.out.grown hg.out (by intro e; injection e with e; omega))
 go_upto_region 3 with fail
 have S := qh (S.out.below ((Below.refl _ _).drew))
 have HBt := qh (HBt.out.drewN 1)
 have t1 : wx.drew.cell? ⟨bt, 1, none⟩ = some (.complex .f64 (fl n1) (fl n2)) := HBt.out.cell 1
 have t3 : wx.drew.cell? ⟨bt, 3, none⟩ = some (.string t_n) := HBt.out.cell 3
 have HZ := qh S.out.pg.2.size
 have D1 := qh (S.out.treeD (of_E HT.out hgL _ (by have := S.out.le; have := HT.out.toks.len; omega) _ S.out.pg.1) (g2_expr (g := g)))
 clear S
 go_region_law (first
  | (go_simp; go_at_call 77; (with_reducible refine D1.out.mono ?_); rintro e x (⟨k, rfl, h, hgr⟩ | ⟨y, by_, j2, rfl, hj2, S, hgr, hr⟩); (case' inl => exact ⟨rfl, S1.errT h.out hgr.out _⟩); have HB2 := qh (HBt.out.grown hgr.out (by intro e; injection e with e; omega)); have t1 : x.cell? ⟨bt, 1, none⟩ = some (.complex .f64 (fl n1) (fl n2)) := HB2.out.cell 1; have t3 : x.cell? ⟨bt, 3, none⟩ = some (.string t_n) := HB2.out.cell 3; have HB3 := qh (HB2.out.below ((Below.refl _ _).alloc nl (.cells #[.pointer (some ⟨by_, 0, none⟩)] 31)) HB2.out.lt); have t1b : (x.alloc (.cells #[.pointer (some ⟨by_, 0, none⟩)] 31)).cell? ⟨bt, 1, none⟩ = some (.complex .f64 (fl n1) (fl n2)) := HB3.out.cell 1; have t3b : (x.alloc (.cells #[.pointer (some ⟨by_, 0, none⟩)] 31)).cell? ⟨bt, 3, none⟩ = some (.string t_n) := HB3.out.cell 3; have HR := qh (one1 (hr.out.more (S' := fun y => w.heap.size ≤ y) fun y hy _ => Nat.le_trans HZ.out hy)))
  | (go_simp; go_at_call 33; (with_reducible refine (St.new_lit (B := w.heap.size) (w := x) S.out.pg.2.size 40 40 rfl n1 n2 t_n [.pointer (some ⟨by_, 0, none⟩)] [y] x.heap.size rfl 1 rfl (by decide) HR.out).mono ?_); rintro e x2 ⟨b2, rfl, hb, hr⟩; have S := qh (S.out.below hb); have HR := qh hr; clear hb hr))
 all_goals
  go_wp2
  go_ret
  exact S.out.doneT HR.out
theorem types_any {g : Nat} (df : Bool) {w0 : World} {br c : Nat} {A : Option Addr} {L : List PT} (ht : TkS w0 br A L) (hgL : L.length < g) {lo : Nat} {ty : Par T1} (hty : Good2 ty) (HTy : Hid (TyOK 100 ty lo w0 br A c L)) (i : Nat) (hlo : lo ≤ i) (hi : i ≤ L.length) (w : World) (h : PInv w0 w br A c L i) :
 Calls Tryz.prog 82 #[.pointer (some ⟨br, 0, none⟩), .bool df] w (TreeR w.heap.size w0 w br A c L (typeF ty df L i)) := by
 have hbr := h.row.lt
 have H0 := qh h
 have HT := qh ht
 obtain ⟨res, hs0⟩ : ∃ r, r = typeF ty df L i := ⟨_, rfl⟩
 rw [← hs0]
 have S := qh (S1.start h hi hs0)
 clear h ht hs0 hi
 go_enter Tryz.func82, Tryz.ntmps82
 unfold typeF at S
 go_wp2_with fail
 (with_reducible refine S.out.name HT.out ?_ ?_)
 ·intro k w1 h hg; go_wp2; exact ⟨rfl, S1.errT h.out hg.out _⟩
 clear S
 intro k_n n1 n2 q3_n q4_n t_n n_n wx S hg
 have hbt := S.out.pg.1.row.lt
 have HBt := qh (Blk.new wx 40 #[.int .u8 k_n, .complex .f64 (fl n1) (fl n2), .complex .f64 (fl q3_n) (fl q4_n), .string t_n, .int .i64 n_n])
 have S := qh (S.out.below ((Below.refl _ _).alloc nl (.cells #[.int .u8 k_n, .complex .f64 (fl n1) (fl n2), .complex .f64 (fl q3_n) (fl q4_n), .string t_n, .int .i64 n_n] 40)))
 go_upto_region 2 with fail
 generalize wx.heap.size = bt at *
 generalize wx.alloc (.cells #[.int .u8 k_n, .complex .f64 (fl n1) (fl n2), .complex .f64 (fl q3_n) (fl q4_n), .string t_n, .int .i64 n_n] 40) = wy at *
 have S := qh (S.out.of (q := if (df && tT sSem (tk L (i + 1))) = true then retP (mk 41 (n1, n2) t_n 0 [zeroT]) else needF sEqu (bindP ty fun x => retP (mk 41 (n1, n2) t_n 0 [x]))) rfl)
 go_upto_region 2 with fail
 go_cut [13] (fun cv wc => Hid (∃ bv, cv = .bool bv ∧ bv = (df && tT sSem (tk L (i + 1))) ∧ S1 w0 w wc br c A L res (if (df && tT sSem (tk L (i + 1))) = true then retP (mk 41 (n1, n2) t_n 0 [zeroT]) else needF sEqu (bindP ty fun x => retP (mk 41 (n1, n2) t_n 0 [x]))) (i + 1) ∧ Blk wc bt 40 #[.int .u8 k_n, .complex .f64 (fl n1) (fl n2), .complex .f64 (fl q3_n) (fl q4_n), .string t_n, .int .i64 n_n]))
 case first =>
  cases df with
  | false =>
    go_wp2_with fail
    go_meet
    exact qh ⟨false, rfl, rfl, S.out, HBt.out⟩
  | true =>
    go_wp2_with fail
    (with_reducible refine S.out.is HT.out rfl ?_)
    clear S
    intro wx S hg
    have HBt := qh (HBt.out.grown hg.out (by intro e; injection e with e; omega))
    generalize hv : isT L (i + 1) sSem = v
    go_wp2_with fail
    go_meet
    exact qh ⟨v, rfl, by rw [← hv]; rfl, S.out, HBt.out⟩
 case rest =>
  obtain ⟨bv, rfl, hbv, hc1, hc2⟩ := hcut.out
  clear S HBt
  clear hcut
  have S := qh hc1
  have HBt := qh hc2
  clear hc1 hc2
  have HBV := qh hbv
  clear hbv
  cases bv with
  | true =>
    have S := qh (S.out.yes HBV.out.symm)
    go_upto_region 3 with fail
    have t1 : wc.cell? ⟨bt, 1, none⟩ = some (.complex .f64 (fl n1) (fl n2)) := HBt.out.cell 1
    have t3 : wc.cell? ⟨bt, 3, none⟩ = some (.string t_n) := HBt.out.cell 3
    have hbl := HBt.out.lt
    have NW := qh (St.new_lit (B := w.heap.size) (w := wc) S.out.pg.2.size 41 41 rfl n1 n2 t_n [.pointer none] [zeroT] wc.heap.size rfl 1 rfl (by decide) (zero1))
    go_wp2_with fail
    ((with_reducible refine NW.out.mono ?_); rintro e wy ⟨b, rfl, hb, hr⟩)
    have Hb := qh hr
    have S := qh (S.out.below hb)
    clear hb hr NW
    go_wp2
    go_ret
    exact S.out.doneT Hb.out
  | false =>
    have S := qh (S.out.no (by rw [← HBV.out]; simp))
    go_wp2_with fail
    (with_reducible refine S.out.need HT.out rfl ?_ ?_)
    ·intro k w1 h hg; go_wp2; exact ⟨rfl, S1.errT h.out hg.out _⟩
    clear S
    intro wx S hg
    have HBt := qh (HBt.out.grown hg.out (by intro e; injection e with e; omega))
    go_upto_region 5 with fail
    have S := qh (S.out.below ((Below.refl _ _).drew))
    have HBt := qh (HBt.out.drewN 1)
    have t1 : wx.drew.cell? ⟨bt, 1, none⟩ = some (.complex .f64 (fl n1) (fl n2)) := HBt.out.cell 1
    have t3 : wx.drew.cell? ⟨bt, 3, none⟩ = some (.string t_n) := HBt.out.cell 3
    have HZ := qh S.out.pg.2.size
    have D1 := qh (S.out.treeD (HTy.out _ (by omega) S.out.le _ S.out.pg.1) (hty))
    clear S
    go_region_law (first
     | (go_simp; go_at_call 100; (with_reducible refine D1.out.mono ?_); rintro e x (⟨k, rfl, h, hgr⟩ | ⟨y, by_, j2, rfl, hj2, S, hgr, hr⟩); (case' inl => exact ⟨rfl, S1.errT h.out hgr.out _⟩); have HB2 := qh (HBt.out.grown hgr.out (by intro e; injection e with e; omega)); have t1 : x.cell? ⟨bt, 1, none⟩ = some (.complex .f64 (fl n1) (fl n2)) := HB2.out.cell 1; have t3 : x.cell? ⟨bt, 3, none⟩ = some (.string t_n) := HB2.out.cell 3; have HB3 := qh (HB2.out.below ((Below.refl _ _).alloc nl (.cells #[.pointer (some ⟨by_, 0, none⟩)] 31)) HB2.out.lt); have t1b : (x.alloc (.cells #[.pointer (some ⟨by_, 0, none⟩)] 31)).cell? ⟨bt, 1, none⟩ = some (.complex .f64 (fl n1) (fl n2)) := HB3.out.cell 1; have t3b : (x.alloc (.cells #[.pointer (some ⟨by_, 0, none⟩)] 31)).cell? ⟨bt, 3, none⟩ = some (.string t_n) := HB3.out.cell 3; have HR := qh (one1 (hr.out.more (S' := fun y => w.heap.size ≤ y) fun y hy _ => Nat.le_trans HZ.out hy)))
     | (go_simp; go_at_call 33; (with_reducible refine (St.new_lit (B := w.heap.size) (w := x) S.out.pg.2.size 41 41 rfl n1 n2 t_n [.pointer (some ⟨by_, 0, none⟩)] [y] x.heap.size rfl 1 rfl (by decide) HR.out).mono ?_); rintro e x2 ⟨b2, rfl, hb, hr⟩; have S := qh (S.out.below hb); have HR := qh hr; clear hb hr))
    all_goals
     go_wp2
     go_ret
     exact S.out.doneT HR.out
theorem vars_any {g : Nat} (df : Bool) {w0 : World} {br c : Nat} {A : Option Addr} {L : List PT} (ht : TkS w0 br A L) (hgL : L.length < g) {lo : Nat} {ty : Par T1} (hty : Good2 ty) (HTy : Hid (TyOK 100 ty lo w0 br A c L)) (i : Nat) (hlo : lo ≤ i) (hi : i ≤ L.length) (w : World) (h : PInv w0 w br A c L i) :
 Calls Tryz.prog 83 #[.pointer (some ⟨br, 0, none⟩), .bool df] w (TreeR w.heap.size w0 w br A c L (varF g ty L i)) := by
 have hbr := h.row.lt
 have H0 := qh h
 have HT := qh ht
 obtain ⟨res, hs0⟩ : ∃ r, r = varF g ty L i := ⟨_, rfl⟩
 rw [← hs0]
 have S := qh (S1.start h hi hs0)
 clear h ht hs0 hi
 go_enter Tryz.func83, Tryz.ntmps83
 unfold varF at S
 go_wp2_with fail
 (with_reducible refine S.out.now HT.out ?_)
 clear S
 intro k_p p1 p2 q3_p q4_p t_p n_p wx HPp S hg
 have HZ := qh S.out.pg.2.size
 go_wp2_with fail
 (with_reducible refine S.out.list (names_any HT.out hgL _ S.out.le _ S.out.pg.1) (g2_names g []) ?_ ?_)
 ·intro k w1 h hg; go_wp2; exact ⟨rfl, S1.errT h.out hg.out _⟩
 clear S
 intro l svl xsl j1 wx HEl hj1 S hg Hl
 have Hl := qh (Hl.out.lower HZ.out)
 clear HZ
 have hll := names_len HEl.out
 have hjl := S.out.le
 have hlen := HT.out.toks.len
 have NW := qh (new_kgl (B := w.heap.size) (w := wx) S.out.pg.2.size 42 42 rfl p1 p2 sNil 0 Hl.out (by simp at hll; omega))
 go_wp2_with fail
 ((with_reducible refine NW.out.mono ?_); rintro e wy ⟨b, sv0, xs0, rfl, hb, hk⟩)
 have HK := qh (hk.lower S.out.pg.2.size)
 have S := qh (S.out.below hb)
 clear hb hk NW
 go_wp2_with fail
 (with_reducible refine S.out.need HT.out rfl ?_ ?_)
 ·intro k w1 h hg; go_wp2; exact ⟨rfl, S1.errT h.out hg.out _⟩
 clear S
 intro wx S hg
 have HK := qh (HK.out.grown hg.out hbr nl)
 go_upto_region 3 with fail
 go_cut [] (fun wc => Hid (∃ x sv xs j2, S1 w0 w wc br c A L res (retP (mk 42 (p1, p2) sNil 0 (l ++ [x]))) j2 ∧ KG w.heap.size w.heap.size wc b ⟨42, (p1, p2), sNil, 0⟩ sv (l ++ [x]) xs))
 case first =>
  have hll2 : l.length ≤ 1000000 := by simp at hll; omega
  have D1 := qh ((S.out.below ((Below.refl _ _).drew)).treeD (HTy.out _ (by omega) S.out.le _ (S.out.pg.1.below ((Below.refl _ _).drew))) (hty))
  have HKD := qh (HK.out.below ((Below.refl _ _).drew))
  have HKL := qh HK.out.len
  obtain ⟨m4, m4f, hbl4⟩ := HK.out.kn.facts
  clear S HK
  go_region_law (first
   | (go_simp; go_at_call 100; (with_reducible refine D1.out.mono ?_); rintro e x (⟨k, rfl, h, hgr⟩ | ⟨y, by_, j2, rfl, hj2, S, hgr, hr⟩); (case' inl => exact ⟨rfl, S1.errT h.out hgr.out _⟩); have HK := qh (HKD.out.grown hgr.out hbr nl); have HY := qh (HKD.out.new hr.out nl); obtain ⟨t4, t4f, hbx⟩ := HK.out.kn.facts)
   | (refine step_pushK (by rfl) _ _ (by rfl) (m := x.heap.size) (bY := by_) (t := y) S.out H0.out HK.out (by omega) HY.out (by rfl) (by rfl) (by rfl) ?_; clear S HK; intro g' cap xs' w5 s4 s4f hb5 S HK))
  all_goals
   go_wp2_with fail
   go_meet
   exact qh ⟨y, _, _, j2, S.out, HK.out⟩
 case rest =>
  obtain ⟨x, sv, xs, j2, hc1, hc2⟩ := hcut.out
  clear S HK
  clear hcut
  have S := qh hc1
  have HK := qh hc2
  clear hc1 hc2
  have Hb := qh (HK.out.done nl)
  go_wp2
  go_ret
  exact S.out.doneT Hb.out
def BlOK (df : Bool) (bl : Par T1) (lo : Nat) (w0 : World) (br : Nat) (A : Option Addr) (c : Nat) (L : List PT) : Prop := df = false → TyOK 59 bl lo w0 br A c L
theorem BlOK.get {lo br c : Nat} {bl : Par T1} {w0 : World} {A : Option Addr} {L : List PT} (h : BlOK false bl lo w0 br A c L) : TyOK 59 bl lo w0 br A c L := h rfl
theorem forest_app1 {y : T1} : ∀ acc : List T1, (forest acc).app (forest [y]) = forest (acc ++ [y])
 | [] => rfl
 | x :: acc => by
   show Fo.node x.1 x.2 ((forest acc).app (forest [y])) = _
   rw [forest_app1 acc]
   rfl
theorem addK_eq {d : Nd} {acc : List T1} {y : T1} : addK (d, forest acc) y = (d, forest (acc ++ [y])) := by
 unfold addK
 rw [← forest_app1]
theorem KG.f2 {B0 B b : Nat} {w : World} {d : Nd} {sv : Value} {acc : List T1} {xs : List Value} (h : KG B0 B w b d sv acc xs) : w.cell? ⟨b, 2, none⟩ = some (.string d.name) := h.kn.blk.cell 2
theorem names_B {g : Nat} {w0 : World} {br c : Nat} {A : Option Addr} {L : List PT} (ht : TkS w0 br A L) (hgL : L.length < g) (i : Nat) (hi : i ≤ L.length) (w : World) (h : PInv w0 w br A c L i) :
 Calls Tryz.prog 101 #[.pointer (some ⟨br, 0, none⟩)] w (ListB w.heap.size w0 w br A c L (namesF g [] L i)) := by
 refine (names_any ht hgL i hi w h).mono fun e w' h => ⟨h, fun l j e => ?_⟩
 have h1 := names_len e
 have h2 := (g2_max (g2_names g []) L i).2.1 hi
 have h3 := ht.toks.len
 rw [e] at h2
 simp only [posE] at h2
 simp at h1
 omega
theorem impR_step {g f : Nat} {acc : List T1} {Q : List T1 → Par T1} : bindP (impR g (f + 1) acc) Q = tokP (tT sImport) (fun t => bindP (namesF g []) fun l => needF sSem (bindP (impR g f (acc ++ [mk 53 t.2.1 sNil 0 l])) Q)) (Q acc) := by
 rw [impR]
 simp only [bind_assoc, bind_need, bind_tok, bind_ret]
def modQ (bl : Par T1) (p : Nat × Nat) (nm : ByteArray) (l : List T1) : Par T1 := bindP bl fun b => endsF nm (needF sSem (retP (mk 44 p nm 0 (l ++ [b]))))
def modE (g : Nat) (bl : Par T1) (p : Nat × Nat) (nm : ByteArray) (l : List T1) : Par T1 := bindP (expF g l) (modQ bl p nm)
theorem modE_step {g : Nat} {bl : Par T1} {p : Nat × Nat} {nm : ByteArray} {l : List T1} : modE g bl p nm l = tokP (tT sExport) (fun t => tokP (tT sQual) (fun _ => bindP (expB g t.2.1 1 l) (modQ bl p nm)) (bindP (expB g t.2.1 0 l) (modQ bl p nm))) (modQ bl p nm l) := by
 unfold modE expF
 simp only [bind_tok, bind_ret]
theorem expB_bind {g : Nat} {p : Nat × Nat} {q : Int} {l : List T1} {Q : List T1 → Par T1} : bindP (expB g p q l) Q = bindP (namesF g []) fun m => needF sSem (Q (l ++ [mk 55 p sNil q m])) := by
 unfold expB
 simp only [bind_assoc, bind_need, bind_ret]
theorem procedure_any {g : Nat} (df : Bool) {w0 : World} {br c : Nat} {A : Option Addr} {L : List PT} (ht : TkS w0 br A L) (hgL : L.length < g) {lo : Nat} {bl : Par T1} (hbl : Good2 bl) (HBl : Hid (BlOK df bl lo w0 br A c L)) (i : Nat) (hlo : lo ≤ i + 1) (hi : i ≤ L.length) (w : World) (h : PInv w0 w br A c L i) :
 Calls Tryz.prog 86 #[.pointer (some ⟨br, 0, none⟩), .bool df] w (TreeR w.heap.size w0 w br A c L (procF g bl df L i)) := by
 have hbr := h.row.lt
 have H0 := qh h
 have HT := qh ht
 obtain ⟨res, hs0⟩ : ∃ r, r = procF g bl df L i := ⟨_, rfl⟩
 rw [← hs0]
 have S := qh (S1.start h hi hs0)
 clear h ht hs0 hi
 go_enter Tryz.func86, Tryz.ntmps86
 unfold procF at S
 go_wp2_with fail
 (with_reducible refine S.out.head (heading_any HT.out hgL _ S.out.le _ S.out.pg.1) (g2_heading (g := g)) ?_ ?_)
 ·intro k w1 h hg; go_wp2; exact ⟨rfl, S1.errT h.out hg.out _⟩
 clear S
 intro d b sv acc xs j1 wx hal hj1 S hg HK
 go_wp2_with fail
 (with_reducible refine S.out.need HT.out rfl ?_ ?_)
 ·intro k w1 h hg; go_wp2; exact ⟨rfl, S1.errT h.out hg.out _⟩
 clear S
 intro wx S hg
 have HK := qh (HK.out.grown hg.out hbr nl)
 cases df with
 | true =>
   have S := qh (S.out.yes rfl)
   have Hb := qh (HK.out.done nl)
   go_wp2
   go_ret
   exact S.out.doneT Hb.out
 | false =>
   have S := qh (S.out.no (by simp))
   go_upto_region 4 with fail
   go_cut [] (fun wc => Hid (∃ y sv xs j2, S1 w0 w wc br c A L res (endsF d.name (needF sSem (retP (d, forest (acc ++ [y]))))) j2 ∧ KG w.heap.size w.heap.size wc b d sv (acc ++ [y]) xs))
   case first =>
    have hll2 := HK.out.len
    have D1 := qh ((S.out.below ((Below.refl _ _).drew)).treeD (HBl.out.get _ (by omega) S.out.le _ (S.out.pg.1.below ((Below.refl _ _).drew))) (hbl))
    have HKD := qh (HK.out.below ((Below.refl _ _).drew))
    have HKL := qh HK.out.len
    obtain ⟨m4, m4f, hbl4⟩ := HK.out.kn.facts
    clear S HK
    go_region_law (first
     | (go_simp; go_at_call 59; (with_reducible refine D1.out.mono ?_); rintro e x (⟨k, rfl, h, hgr⟩ | ⟨y, by_, j2, rfl, hj2, S, hgr, hr⟩); (case' inl => exact ⟨rfl, S1.errT h.out hgr.out _⟩); have HK := qh (HKD.out.grown hgr.out hbr nl); have HY := qh (HKD.out.new hr.out nl); obtain ⟨t4, t4f, hbx⟩ := HK.out.kn.facts)
     | (refine step_pushK (by rfl) _ _ (by rfl) (m := x.heap.size) (bY := by_) (t := y) S.out H0.out HK.out (by omega) HY.out (by rfl) (by rfl) (by rfl) ?_; clear S HK; intro g' cap xs' w5 s4 s4f hb5 S HK))
    all_goals
     go_wp2_with fail
     go_meet
     exact qh ⟨y, _, _, j2, S.out.of (by rw [addK_eq]), HK.out⟩
   case rest =>
    obtain ⟨y, sv2, xs2, j2, hc1, hc2⟩ := hcut.out
    clear S HK
    clear hcut
    have S := qh hc1
    have HK := qh hc2
    clear hc1 hc2
    have n2 := KG.f2 HK.out
    have hbl2 := HK.out.kn.blk.lt
    go_wp2_with fail
    (with_reducible refine S.out.ends HT.out ?_ ?_)
    ·intro k w1 h hg; go_wp2; exact ⟨rfl, S1.errT h.out hg.out _⟩
    clear S
    intro wx S hg
    have HK := qh (HK.out.grown hg.out hbr nl)
    clear n2 hbl2
    go_wp2_with fail
    (with_reducible refine S.out.need HT.out rfl ?_ ?_)
    ·intro k w1 h hg; go_wp2; exact ⟨rfl, S1.errT h.out hg.out _⟩
    clear S
    intro wx S hg
    have HK := qh (HK.out.grown hg.out hbr nl)
    have Hb := qh (HK.out.done nl)
    go_wp2
    go_ret
    exact S.out.doneT Hb.out
theorem module_any {g : Nat} {w0 : World} {br c : Nat} {A : Option Addr} {L : List PT} (ht : TkS w0 br A L) (hgL : L.length < g) {lo : Nat} {bl : Par T1} (hbl : Good2 bl) (HBl : Hid (BlOK false bl lo w0 br A c L)) (i : Nat) (hlo : lo ≤ i + 1) (hi : i ≤ L.length) (w : World) (h : PInv w0 w br A c L i) :
 Calls Tryz.prog 87 #[.pointer (some ⟨br, 0, none⟩)] w (TreeR w.heap.size w0 w br A c L (modF g bl L i)) := by
 have hbr := h.row.lt
 have H0 := qh h
 have HT := qh ht
 obtain ⟨res, hs0⟩ : ∃ r, r = modF g bl L i := ⟨_, rfl⟩
 rw [← hs0]
 have S := qh (S1.start h hi hs0)
 clear h ht hs0 hi
 go_enter Tryz.func87, Tryz.ntmps87
 unfold modF at S
 go_wp2_with fail
 (with_reducible refine S.out.now HT.out ?_)
 clear S
 intro k_p p1 p2 q3_p q4_p t_p n_p wx HPp S hg
 go_wp2_with fail
 (with_reducible refine S.out.need HT.out rfl ?_ ?_)
 ·intro k w1 h hg; go_wp2; exact ⟨rfl, S1.errT h.out hg.out _⟩
 clear S
 intro wx S hg
 go_wp2_with fail
 (with_reducible refine S.out.name HT.out ?_ ?_)
 ·intro k w1 h hg; go_wp2; exact ⟨rfl, S1.errT h.out hg.out _⟩
 clear S
 intro k_n n1 n2 q3_n q4_n t_n n_n wx S hg
 have hbt := S.out.pg.1.row.lt
 have HBt := qh (Blk.new wx 40 #[.int .u8 k_n, .complex .f64 (fl n1) (fl n2), .complex .f64 (fl q3_n) (fl q4_n), .string t_n, .int .i64 n_n])
 have S := qh (S.out.below ((Below.refl _ _).alloc nl (.cells #[.int .u8 k_n, .complex .f64 (fl n1) (fl n2), .complex .f64 (fl q3_n) (fl q4_n), .string t_n, .int .i64 n_n] 40)))
 go_upto_region 4 with fail
 generalize wx.heap.size = bt at *
 generalize wx.alloc (.cells #[.int .u8 k_n, .complex .f64 (fl n1) (fl n2), .complex .f64 (fl q3_n) (fl q4_n), .string t_n, .int .i64 n_n] 40) = wb at *
 have HB := S
 have HO := qh HB.out.pg.1
 have hbo := HO.out.row.lt
 have S := qh HB.out.base
 have hlen := HT.out.toks.len
 go_wp2_with fail
 (with_reducible refine S.out.need HT.out rfl ?_ ?_)
 ·intro k w1 h hg; go_wp2; exact ⟨rfl, S1.errT h.out (grown_trans HB.out.pg.2 hg.out) _⟩
 clear S
 intro wx S hg
 have hjl9 := S.out.le
 have HBx := qh (HBt.out.grown S.out.pg.2 (by intro e; injection e with e; omega))
 have t3 := HBx.out.cell 3
 simp only [List.getElem?_toArray, List.getElem?_cons_zero, List.getElem?_cons_succ] at t3
 have hbl := HBx.out.lt
 have NW := qh (new_0 (B0 := wb.heap.size) (w := wx) S.out.pg.2.size 44 44 rfl p1 p2 t_n 0)
 go_wp2_with fail
 ((with_reducible refine NW.out.mono ?_); rintro e wy ⟨b, sv0, xs0, rfl, hb, hk⟩)
 have HK := qh (hk.lower S.out.pg.2.size)
 have S := qh (S.out.below hb)
 clear hb hk NW
 clear t3 hbl HBx
 have S := qh (show S1 w0 wb wy br c A L res (bindP (impR g g []) (modE g bl (p1, p2) t_n)) (i + 1 + 1 + 1) from S.out)
 go_wp2_with fail
 (with_reducible refine S.out.now' HT.out ?_)
 clear S
 intro k_s s1 s2 q3_s q4_s t_s n_s wx HPs S hg
 have HK := qh (HK.out.grown hg.out hbo nl)
 have HPs := qh (show (tk L _).2.1 = (s1, s2) by rw [HPs.out]; rfl)
 go_wp2_with fail
 go_loopg [6] (L.length + 1) (fun gh pv wq => ∃ (s1 s2 : Nat) (acc : List T1) (sv : Value) (xs : List Value) (j f : Nat), pv = .complex .f64 (fl s1) (fl s2) ∧ Hid ((tk L j).2.1 = (s1, s2)) ∧ i < j ∧ L.length + 1 - j ≤ gh ∧ L.length < j + f ∧ acc.length ≤ j ∧ Hid (S1 w0 wb wq br c A L res (bindP (impR g f acc) (modE g bl (p1, p2) t_n)) j) ∧ Hid (KG wb.heap.size wb.heap.size wq b ⟨44, (p1, p2), t_n, 0⟩ sv acc xs))
 case atStart => exact ⟨_, _, [], _, _, i + 1 + 1 + 1, g, rfl, HPs, by omega, by omega, by omega, Nat.zero_le _, S, HK⟩
 case round =>
  clear S HK HPs
  obtain ⟨s1, s2, acc, sv, xs, j, f, rfl, HPs, hij, hgh, hf, hac, S, HK⟩ := hrel
  have hjl := S.out.le
  obtain ⟨f, rfl⟩ : ∃ f', f = f' + 1 := ⟨f - 1, by omega⟩
  have S := qh (S.out.of (q := tokP (tT sImport) (fun t => bindP (namesF g []) fun l => needF sSem (bindP (impR g f (acc ++ [mk 53 t.2.1 sNil 0 l])) (modE g bl (p1, p2) t_n))) ((modE g bl (p1, p2) t_n) acc)) (by rw [impR_step]))
  go_wp2_with fail
  (with_reducible refine S.out.eat HT.out ?_ ?_)
  ·clear S
   intro wx S hg hT
   have HK := qh (HK.out.grown hg.out hbo nl)
   have S := qh (show S1 w0 wb wx br c A L res (bindP (namesF g []) fun l => needF sSem (bindP (impR g f (acc ++ [mk 53 (s1, s2) sNil 0 l])) (modE g bl (p1, p2) t_n))) (j + 1) from by have h := S.out; rw [HPs.out] at h; exact h)
   have hjl0 := S.out.le
   go_upto_region 9 with fail
   go_cut [] (fun wc => Hid (∃ l sv xs j2, j < j2 ∧ S1 w0 wb wc br c A L res (needF sSem (bindP (impR g f (acc ++ [mk 53 (s1, s2) sNil 0 l])) (modE g bl (p1, p2) t_n))) j2 ∧ KG wb.heap.size wb.heap.size wc b ⟨44, (p1, p2), t_n, 0⟩ sv (acc ++ [mk 53 (s1, s2) sNil 0 l]) xs))
   case first =>
    have HSZ := qh S.out.pg.2.size
    have HKL := qh HK.out.len
    have D1 := qh ((S.out.below ((Below.refl _ _).drew)).listBD (names_B HT.out hgL _ S.out.le _ (S.out.pg.1.below ((Below.refl _ _).drew))) (g2_names g []))
    have HKD := qh (HK.out.below ((Below.refl _ _).drew))
    obtain ⟨m4, m4f, hbl4⟩ := HK.out.kn.facts
    clear S HK
    go_region_law (first
     | (go_simp; go_at_call 101; (with_reducible refine D1.out.mono ?_); rintro e y (⟨k, rfl, h, hgr⟩ | ⟨l, A', c', xsl, j3, rfl, hln, hj3, S, hgr, HL⟩); (case' inl => exact ⟨rfl, S1.errT h.out (grown_trans HB.out.pg.2 hgr.out) _⟩); have HK := qh (HKD.out.grown hgr.out hbo nl); obtain ⟨t4, t4f, hbx⟩ := HK.out.kn.facts; have HN := qh (KG.bundle HKD.out nl HL.out hln); clear HL hgr)
     | (go_simp; go_at_call 33; (with_reducible refine (new_inN HK.out nl 53 53 rfl s1 s2 sNil 0 HN.out).mono ?_); rintro e w6 ⟨b6, rfl, hb, hr⟩; have HR := qh hr; have S := qh (S.out.below hb); have HK := qh (HK.out.below hb); clear hb hr; obtain ⟨r4, r4f, hb6⟩ := HK.out.kn.facts)
     | (refine step_pushK (by rfl) _ _ (by rfl) (m := w6.heap.size) (bY := b6) (t := mk 53 (s1, s2) sNil 0 l) S.out HO.out HK.out (by omega) HR.out (by rfl) (by rfl) (by rfl) ?_; clear S HK; intro g' cap xs' w7 u4 u4f hb7 S HK))
    all_goals
     go_wp2_with fail
     go_meet
     exact qh ⟨l, _, _, j3, by omega, S.out, HK.out⟩
   case rest =>
    obtain ⟨l, sv2, xs2, j2, hj2, hc1, hc2⟩ := hcut.out
    clear S HK HPs
    clear hcut
    have S := qh hc1
    have HK := qh hc2
    clear hc1 hc2
    go_wp2_with fail
    (with_reducible refine S.out.need HT.out rfl ?_ ?_)
    ·intro k w1 h hg; go_wp2; exact ⟨rfl, S1.errT h.out (grown_trans HB.out.pg.2 hg.out) _⟩
    clear S
    intro wx S hg
    have HK := qh (HK.out.grown hg.out hbo nl)
    go_wp2_with fail
    (with_reducible refine S.out.now' HT.out ?_)
    clear S
    intro k_s s1 s2 q3_s q4_s t_s n_s wx HPs S hg
    have HK := qh (HK.out.grown hg.out hbo nl)
    have HPs := qh (show (tk L _).2.1 = (s1, s2) by rw [HPs.out]; rfl)
    have hjl := S.out.le
    go_wp2
    go_roundg (L.length + 1 - (j2 + 1))
    case rel => exact ⟨_, _, _, _, _, j2 + 1, f, by rfl, HPs, by omega, by omega, by omega, by simp only [List.length_append, List.length_cons, List.length_nil]; omega, S, HK⟩
    case measure => omega
  ·clear S
   intro wx S hg hT
   have HK := qh (HK.out.grown hg.out hbo nl)
   go_wp2_with fail
   (with_reducible refine S.out.now' HT.out ?_)
   clear S
   intro k_u u1 u2 q3_u q4_u t_u n_u wx HPu S hg
   have HK := qh (HK.out.grown hg.out hbo nl)
   have HPu := qh (show (tk L _).2.1 = (u1, u2) by rw [HPu.out]; rfl)
   have hjl7 := S.out.le
   have S := qh (S.out.of (q := tokP (tT sExport) (fun t => tokP (tT sQual) (fun _ => bindP (expB g t.2.1 1 acc) (modQ bl (p1, p2) t_n)) (bindP (expB g t.2.1 0 acc) (modQ bl (p1, p2) t_n))) ((modQ bl (p1, p2) t_n) acc)) (by rw [modE_step]))
   go_wp2_with fail
   (with_reducible refine S.out.eatb HT.out ?_)
   clear S
   intro bv j4 wx hbv hj4 S hg
   have HK := qh (HK.out.grown hg.out hbo nl)
   have hj4 := hj4.1
   go_upto_if 52 with fail
   go_cut [7, 8] (fun v7 v8 wc => Hid (∃ acc sv xs J, i < J ∧ acc.length ≤ 100000 ∧ S1 w0 wb wc br c A L res ((modQ bl (p1, p2) t_n) acc) J ∧ KG wb.heap.size wb.heap.size wc b ⟨44, (p1, p2), t_n, 0⟩ sv acc xs))
   case first =>
    cases bv with
    | true =>
      have S := qh (show S1 w0 wb wx br c A L res (tokP (tT sQual) (fun _ => bindP (expB g (u1, u2) 1 acc) (modQ bl (p1, p2) t_n)) (bindP (expB g (u1, u2) 0 acc) (modQ bl (p1, p2) t_n))) j4 from by have h := S.out; dsimp only at h; rw [HPu.out] at h; exact h)
      go_wp2_with fail
      (with_reducible refine S.out.eatb HT.out ?_)
      clear S
      intro bq j5 wx hbq hj5 S hg
      have HK := qh (HK.out.grown hg.out hbo nl)
      have hj5 := hj5.1
      go_upto_if 54 with fail
      go_cut [8] (fun qv wc => ∃ q : Int, qv = .int .i64 q ∧ Hid (S1 w0 wb wc br c A L res (bindP (namesF g []) fun m => needF sSem ((modQ bl (p1, p2) t_n) (acc ++ [mk 55 (u1, u2) sNil q m]))) j5 ∧ KG wb.heap.size wb.heap.size wc b ⟨44, (p1, p2), t_n, 0⟩ sv acc xs))
      case first =>
       cases bq with
       | true =>
         go_wp2_with fail
         go_meet
         exact ⟨1, rfl, qh ⟨S.out.of (by rw [expB_bind]), HK.out⟩⟩
       | false =>
         go_wp2_with fail
         go_meet
         exact ⟨0, rfl, qh ⟨S.out.of (by rw [expB_bind]), HK.out⟩⟩
      case rest =>
       obtain ⟨q, rfl, hcq⟩ := hcut
       obtain ⟨hc1, hc2⟩ := hcq.out
       clear S HK hcq
       have S := qh hc1
       have HK := qh hc2
       clear hc1 hc2
       go_upto_region 16 with fail
       go_cut [] (fun wc => Hid (∃ l sv xs j6, j5 ≤ j6 ∧ S1 w0 wb wc br c A L res (needF sSem ((modQ bl (p1, p2) t_n) (acc ++ [mk 55 (u1, u2) sNil q l]))) j6 ∧ KG wb.heap.size wb.heap.size wc b ⟨44, (p1, p2), t_n, 0⟩ sv (acc ++ [mk 55 (u1, u2) sNil q l]) xs))
       case first =>
        have HSZ := qh S.out.pg.2.size
        have HKL := qh HK.out.len
        have D1 := qh ((S.out.below ((Below.refl _ _).drew)).listBD (names_B HT.out hgL _ S.out.le _ (S.out.pg.1.below ((Below.refl _ _).drew))) (g2_names g []))
        have HKD := qh (HK.out.below ((Below.refl _ _).drew))
        obtain ⟨m4, m4f, hbl4⟩ := HK.out.kn.facts
        clear S HK
        go_region_law (first
         | (go_simp; go_at_call 101; (with_reducible refine D1.out.mono ?_); rintro e y (⟨k, rfl, h, hgr⟩ | ⟨l, A', c', xsl, j3, rfl, hln, hj3, S, hgr, HL⟩); (case' inl => exact ⟨rfl, S1.errT h.out (grown_trans HB.out.pg.2 hgr.out) _⟩); have HK := qh (HKD.out.grown hgr.out hbo nl); obtain ⟨t4, t4f, hbx⟩ := HK.out.kn.facts; have HN := qh (KG.bundle HKD.out nl HL.out hln); clear HL hgr)
         | (go_simp; go_at_call 33; (with_reducible refine (new_inN HK.out nl 55 55 rfl u1 u2 sNil q HN.out).mono ?_); rintro e w6 ⟨b6, rfl, hb, hr⟩; have HR := qh hr; have S := qh (S.out.below hb); have HK := qh (HK.out.below hb); clear hb hr; obtain ⟨r4, r4f, hb6⟩ := HK.out.kn.facts)
         | (refine step_pushK (by rfl) _ _ (by rfl) (m := w6.heap.size) (bY := b6) (t := mk 55 (u1, u2) sNil q l) S.out HO.out HK.out (by omega) HR.out (by rfl) (by rfl) (by rfl) ?_; clear S HK; intro g' cap xs' w7 u4 u4f hb7 S HK))
        all_goals
         go_wp2_with fail
         go_meet
         exact qh ⟨l, _, _, j3, by omega, S.out, HK.out⟩
       case rest =>
        obtain ⟨l, sv2, xs2, j6, hj6, hc1, hc2⟩ := hcut.out
        clear S HK
        clear hcut
        have S := qh hc1
        have HK := qh hc2
        clear hc1 hc2
        go_wp2_with fail
        (with_reducible refine S.out.need HT.out rfl ?_ ?_)
        ·intro k w1 h hg; go_wp2; exact ⟨rfl, S1.errT h.out (grown_trans HB.out.pg.2 hg.out) _⟩
        clear S
        intro wx S hg
        have HK := qh (HK.out.grown hg.out hbo nl)
        go_wp2_with fail
        go_meet
        exact qh ⟨_, _, _, j6 + 1, by omega, by simp only [List.length_append, List.length_cons, List.length_nil]; omega, S.out, HK.out⟩
    | false =>
      go_wp2_with fail
      go_meet
      exact qh ⟨acc, _, _, j4, by omega, by omega, S.out, HK.out⟩
   case rest =>
    obtain ⟨acc, sv, xs, J, hiJ, hac, hc1, hc2⟩ := hcut.out
    clear S HK
    clear hcut
    have S := qh hc1
    have HK := qh hc2
    clear hc1 hc2
    unfold modQ at S
    go_upto_region 18 with fail
    go_cut [] (fun wc => Hid (∃ y sv xs j2, S1 w0 wb wc br c A L res (endsF t_n (needF sSem (retP (mk 44 (p1, p2) t_n 0 (acc ++ [y]))))) j2 ∧ KG wb.heap.size wb.heap.size wc b ⟨44, (p1, p2), t_n, 0⟩ sv (acc ++ [y]) xs))
    case first =>
     have D1 := qh ((S.out.below ((Below.refl _ _).drew)).treeD (HBl.out.get _ (by omega) S.out.le _ (S.out.pg.1.below ((Below.refl _ _).drew))) (hbl))
     have HKD := qh (HK.out.below ((Below.refl _ _).drew))
     have HKL := qh HK.out.len
     obtain ⟨m4, m4f, hbl4⟩ := HK.out.kn.facts
     clear S HK
     go_region_law (first
      | (go_simp; go_at_call 59; (with_reducible refine D1.out.mono ?_); rintro e x (⟨k, rfl, h, hgr⟩ | ⟨y, by_, j2, rfl, hj2, S, hgr, hr⟩); (case' inl => exact ⟨rfl, S1.errT h.out (grown_trans HB.out.pg.2 hgr.out) _⟩); have HK := qh (HKD.out.grown hgr.out hbo nl); have HY := qh (HKD.out.new hr.out nl); obtain ⟨t4, t4f, hbx⟩ := HK.out.kn.facts)
      | (refine step_pushK (by rfl) _ _ (by rfl) (m := x.heap.size) (bY := by_) (t := y) S.out HO.out HK.out (by omega) HY.out (by rfl) (by rfl) (by rfl) ?_; clear S HK; intro g' cap xs' w5 s4 s4f hb5 S HK))
     all_goals
      go_wp2_with fail
      go_meet
      exact qh ⟨y, _, _, j2, S.out, HK.out⟩
    case rest =>
     obtain ⟨y, sv2, xs2, j2, hc1, hc2⟩ := hcut.out
     clear S HK
     clear hcut
     have S := qh hc1
     have HK := qh hc2
     clear hc1 hc2
     have HBx := qh (HBt.out.grown S.out.pg.2 (by intro e; injection e with e; omega))
     have t3 := HBx.out.cell 3
     simp only [List.getElem?_toArray, List.getElem?_cons_zero, List.getElem?_cons_succ] at t3
     have hbl := HBx.out.lt
     go_wp2_with fail
     (with_reducible refine S.out.ends HT.out ?_ ?_)
     ·intro k w1 h hg; go_wp2; exact ⟨rfl, S1.errT h.out (grown_trans HB.out.pg.2 hg.out) _⟩
     clear S
     intro wx S hg
     have HK := qh (HK.out.grown hg.out hbo nl)
     clear t3 hbl HBx
     go_wp2_with fail
     (with_reducible refine S.out.need HT.out rfl ?_ ?_)
     ·intro k w1 h hg; go_wp2; exact ⟨rfl, S1.errT h.out (grown_trans HB.out.pg.2 hg.out) _⟩
     clear S
     intro wx S hg
     have HK := qh (HK.out.grown hg.out hbo nl)
     have SJ := qh (HB.out.join S.out)
     have Hb := qh ((KG.done0 HK.out).more (S' := fun y => w.heap.size ≤ y) fun y hy _ => Nat.le_trans HB.out.pg.2.size hy)
     go_wp2
     go_ret
     exact SJ.out.doneT Hb.out
end De
end Go.Proofs.YtkemhmfdooghkaaGreatDoor
