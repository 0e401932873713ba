import Derived.Test.YtkemhmfdooghkaaGreatDoorX30
set_option linter.unusedSimpArgs false
set_option linter.unusedVariables false
set_option maxRecDepth 100000
set_option maxHeartbeats 6400000
namespace Go.Proofs.YtkemhmfdooghkaaGreatDoor
namespace De
open Go.RowKit
open Tr (Nd Fo RepS RepN Rep cellsN)
open Lx (Tk noTk Blk run_store_complexL TokAt)
open Fl
open Ex
open St (TkS g2_max g2_expr g2_labels Good2 isNm KG KN new_kg new_0 kid_facts one_ptr bind_ok bind_err need_y need_n tok_y tok_n ret_ add_block sSem sCol sEnd sOf sBar sElse sCase sTo armOut isWd6)
attribute [local go_sem] run_store_complexL run_field0 run_field1 run_field3
theorem look_y {br : Nat} {t : ByteArray} {v : Value} (h : ((wordD br).find? (fun x => decide (x.1 = t))).map (·.2) = some v) (w : World) (m : Nat) (hm : w.heap[m]? = some (mapO (entsV (wordD br)))) : (Instr.lookup 123 (.map (some m)) (.string t) true).run Tryz.prog w = .ok (.tuple #[v, .bool true]) w := by
 obtain ⟨j, hj⟩ := (find_ents t (wordD br) 0 0).1 v h
 exact run_look Tryz.underlying123 Tryz.underlying9 (entsV (wordD br)) (.string t) (by simp [MapKept.IsKey]) hj true w m hm
def SecAt (br : Nat) (t : ByteArray) (fv iv : Value) : Prop := (t = sConst ∧ fv = (.func (.func 81) #[.pointer (some ⟨br, 0, none⟩)] #[]) ∧ iv = .bool true) ∨ (t = sType ∧ fv = (.func (.func 82) #[.pointer (some ⟨br, 0, none⟩)] #[]) ∧ iv = .bool true) ∨ (t = sVar ∧ fv = (.func (.func 83) #[.pointer (some ⟨br, 0, none⟩)] #[]) ∧ iv = .bool true) ∨ (t ≠ sConst ∧ t ≠ sType ∧ t ≠ sVar ∧ iv = .bool false)
def SecIs (br : Nat) (t : PT) (fv v : Value) : Prop := (v = .bool true ∧ isWd6 sConst t = true ∧ fv = (.func (.func 81) #[.pointer (some ⟨br, 0, none⟩)] #[])) ∨ (v = .bool true ∧ isWd6 sType t = true ∧ fv = (.func (.func 82) #[.pointer (some ⟨br, 0, none⟩)] #[])) ∨ (v = .bool true ∧ isWd6 sVar t = true ∧ fv = (.func (.func 83) #[.pointer (some ⟨br, 0, none⟩)] #[])) ∨ (v = .bool false ∧ isWd6 sConst t = false ∧ isWd6 sType t = false ∧ isWd6 sVar t = false)
def SameW (a b : World) : Prop := a = b
theorem sec_step {f : Nat} {q : Par T1} {acc : List T1} {Q : List T1 → Par (List T1)} : bindP (secR q (f + 1) acc) Q = posP fun t => if isNm t = true then bindP q fun x => needF sSem (bindP (secR q f (acc ++ [x])) Q) else Q acc := by
 rw [secR, bind_pos]
 congr 1
 funext t
 rw [bind_ite]
 simp only [bind_assoc, bind_need, bind_ret]
theorem S1.treeX {β : Type} {w0 w wx : World} {br c j : Nat} {A : Option Addr} {L : List PT} {res : Except Nat (β × Nat)} {K : Ending → World → Prop} {P : Par T1} {q : T1 → Par β} {F : Nat} {args : Array Value} (S : S1 w0 w wx br c A L res (bindP P q) j) (D : Calls Tryz.prog F args wx (TreeR wx.heap.size w0 wx br A c L (P L j))) (G : Good2 P) (hlt : ∀ x j', P L j = .ok (x, j') → j < j') (E : EK res w br K)
 (C : ∀ x b j' w', j < j' → Hid (S1 w0 w w' br c A L res (q x) j') → Hid (wx.grownBy w' (some br)) → Hid (RepS (fun y => wx.heap.size ≤ y) w' (.node x.1 x.2 .no) [.pointer (some ⟨b, 0, none⟩)]) → K (.returned (.pointer (some ⟨b, 0, none⟩))) w') :
 Calls Tryz.prog F args wx K := by
 have hm := g2_max G L j
 cases hx : P L j with
 | error k =>
   rw [hx] at D
   refine D.mono ?_
   rintro e w' ⟨rfl, hb⟩
   exact E k w' (qh (S.eq.trans (bind_err hx))) (qh (grown_trans S.pg.2 hb))
 | ok r =>
   obtain ⟨x, j'⟩ := r
   rw [hx] at D hm
   refine D.mono ?_
   rintro e w' ⟨b, rfl, hp, hg, hr⟩
   exact C x b j' w' (hlt x j' hx) (qh ⟨S.pg.trans ⟨hp, hg⟩, S.eq.trans (bind_ok hx), hm.2.1 S.le⟩) (qh hg) (qh hr)
theorem need_lt {α : Type} {p : Par α} (hp : Good2 p) {s : ByteArray} {L : List PT} {j j' : Nat} {x : α} (h : needF s p L j = .ok (x, j')) : j < j' := by
 unfold needF tokP at h
 dsimp only at h
 split at h
 ·have := hp.mono L (j + 1)
  rw [h] at this
  exact this
 ·cases h
theorem proc_lt {g : Nat} {bl : Par T1} (hb : Good2 bl) {df : Bool} {L : List PT} (j : Nat) (x : T1) (j' : Nat) (h : procF g bl df L j = .ok (x, j')) : j < j' := by
 unfold procF at h
 cases e : headingF g L j with
 | error k => rw [bind_err e] at h; cases h
 | ok r =>
   obtain ⟨y, m⟩ := r
   rw [bind_ok e] at h
   have h1 : j < m := by
    unfold headingF posP at e
    exact need_lt (St.g2_tok rfl (fun n => St.g2_bind g2_params fun l => St.g2_ret _) St.g2_fail) e
   have h2 := (St.g2_need (s := sSem) (g2_if (c := df = true) (St.g2_ret y) (St.g2_bind hb fun b => g2_ends (n := y.1.name) (St.g2_need (s := sSem) (St.g2_ret (addK y b)))))).mono L m
   rw [h] at h2
   exact Nat.lt_of_lt_of_le h1 h2
theorem mod_lt {g : Nat} {bl : Par T1} (hb : Good2 bl) {L : List PT} (j : Nat) (x : T1) (j' : Nat) (h : modF g bl L j = .ok (x, j')) : j < j' := by
 unfold modF posP at h
 exact need_lt (St.g2_tok rfl (fun n => St.g2_need (St.g2_bind (g2_imp _ _) fun l => St.g2_bind g2_exp fun l2 => St.g2_bind hb fun b => g2_ends (St.g2_need (St.g2_ret _)))) St.g2_fail) h
theorem S1.shut {w0 w wx : World} {br c j : Nat} {A : Option Addr} {L : List PT} {res : Except Nat (List T1 × Nat)} {B : Nat} {l : List T1} {sv : Value} {xs : List Value} (S : S1 w0 w wx br c A L res (retP l) j) (h : LG B wx sv l xs) (hB : w.heap.size ≤ B) (hl : l.length ≤ 100000) : ListB w.heap.size w0 w br A c L res (.returned sv) wx := S.doneB (h.lower hB) hl
theorem S1.inc {β : Type} {w0 w wx : World} {br c j : Nat} {A : Option Addr} {L : List PT} {res : Except Nat (β × Nat)} {a : PT → Par β} {b : Par β} {t : PT → Bool} (S : S1 w0 w wx br c A L res (tokP t a b) j) (hT : t (tk L j) = true) (h0 : t noPT = false) : S1 w0 w (wx.setCell ⟨br, 1, none⟩ (.int .i64 (j + 1 : Nat))) br c A L res (a (tk L j)) (j + 1) := by
 refine ⟨S.pg.set_ (j + 1), S.eq.trans (tok_y hT), ?_⟩
 rcases Nat.lt_or_ge j L.length with h | h
 ·exact h
 ·rw [tk_end h, h0] at hT; cases hT
theorem wd_ne {s s' : ByteArray} {t : PT} (h : isWd6 s t = true) (hn : s ≠ s') : isWd6 s' t = false := by
 unfold isWd6 at h ⊢
 rw [Bool.and_eq_true, decide_eq_true_eq, decide_eq_true_eq] at h
 rw [h.2, decide_eq_false hn, Bool.and_false]
theorem decls_any {g : Nat} (df : Bool) {w0 : World} {br c : Nat} {A : Option Addr} {L : List PT} (ht : TkS w0 br A L) (hgL : L.length < g) {lo : Nat} {ty bl : Par T1} (hty : Good2 ty) (hbl : Good2 bl) (HTy : Hid (TyOK 100 ty 0 w0 br A c L)) (HBl : Hid (BlOK df bl lo w0 br A c L)) (i : Nat) (hlo : lo ≤ i + 1) (hi : i ≤ L.length) (w : World) (h : PInv w0 w br A c L i) :
 Calls Tryz.prog 62 #[.pointer (some ⟨br, 0, none⟩), .bool df] w (ListB w.heap.size w0 w br A c L (declsR g ty bl df g [] L i)) := by
 have hbr := h.row.lt
 have H0 := qh h
 have HT := qh ht
 obtain ⟨res, hs0⟩ : ∃ r, r = declsR g ty bl df g [] L i := ⟨_, rfl⟩
 rw [← hs0]
 have S := qh (S1.start h hi hs0)
 clear h ht hs0 hi
 go_enter Tryz.func62, Tryz.ntmps62
 have hmm := @run_makeMap Tryz.prog
 have hmf : ∀ (fn : Fn) (first cap : Array Value) (w : World), (Instr.makeFunc fn first cap).run Tryz.prog w = .ok (.func fn first cap) w := fun _ _ _ _ => rfl
 have hi0 := ins_0 br
 have hi1 := ins_1 br
 have hi2 := ins_2 br
 go_wp2_with fail
 have HB := qh (S.out.below ((Below.refl _ _).alloc nl (mapO (entsV (wordD br)))))
 have HMP := qh (show (w.alloc (mapO (entsV (wordD br)))).heap[w.heap.size]? = some (mapO (entsV (wordD br))) from heap_alloc_new w _)
 have hmp : w.heap.size < (w.alloc (mapO (entsV (wordD br)))).heap.size := by rw [World.size_alloc]; exact Nat.lt_succ_self _
 generalize w.alloc (mapO (entsV (wordD br))) = wb at *
 have HO := qh HB.out.pg.1
 have hbo := HO.out.row.lt
 have S := qh HB.out.base
 have hbm := hbr
 obtain ⟨mp, hmpe⟩ : ∃ m, m = w.heap.size := ⟨_, rfl⟩
 rw [← hmpe] at HMP hmp hbm ⊢
 have HME := qh hmpe
 clear hi0 hi1 hi2 hmm hmf hmpe
 go_loopg [4] (L.length + 1) (fun gh sv wq => ∃ (lv : Value) (acc : List T1) (xs : List Value) (j f : Nat), lv = sv ∧ i ≤ j ∧ L.length + 1 - j ≤ gh ∧ L.length < j + f ∧ acc.length ≤ j ∧ Hid (S1 w0 wb wq br c A L res (declsR g ty bl df f acc) j) ∧ Hid (LG wb.heap.size wq lv acc xs))
 case atStart => exact ⟨_, [], [], i, g, rfl, by omega, by omega, by omega, Nat.zero_le _, S, qh (LG.nil _ _)⟩
 case round =>
  clear S
  obtain ⟨lv, acc, xs, j, f, rfl, hij, hgh, hf, hac, S, HG⟩ := hrel
  have hjl := S.out.le
  obtain ⟨f, rfl⟩ : ∃ f', f = f' + 1 := ⟨f - 1, by omega⟩
  obtain ⟨A7, c7, rfl, _⟩ := HG.out.form
  have hlen := HT.out.toks.len
  unfold declsR at S
  go_wp2_with fail
  (with_reducible refine S.out.now' HT.out ?_)
  clear S
  intro k_t t1 t2 q3_t q4_t t_t n_t wx HPt S hg
  have HG := qh (HG.out.grown hg.out hbo)
  have hbt := S.out.pg.1.row.lt
  have HBt := qh (Blk.new wx 40 #[.int .u8 k_t, .complex .f64 (fl t1) (fl t2), .complex .f64 (fl q3_t) (fl q4_t), .string t_t, .int .i64 n_t])
  have S := qh (S.out.below ((Below.refl _ _).alloc nl (.cells #[.int .u8 k_t, .complex .f64 (fl t1) (fl t2), .complex .f64 (fl q3_t) (fl q4_t), .string t_t, .int .i64 n_t] 40)))
  have HG := qh (HG.out.below ((Below.refl _ _).alloc nl (.cells #[.int .u8 k_t, .complex .f64 (fl t1) (fl t2), .complex .f64 (fl q3_t) (fl q4_t), .string t_t, .int .i64 n_t] 40)))
  go_upto_region 3 with fail
  generalize wx.heap.size = bt at *
  generalize wx.alloc (.cells #[.int .u8 k_t, .complex .f64 (fl t1) (fl t2), .complex .f64 (fl q3_t) (fl q4_t), .string t_t, .int .i64 n_t] 40) = wy at *
  have t0 := HBt.out.cell 0
  have t3 := HBt.out.cell 3
  simp only [List.getElem?_toArray, List.getElem?_cons_zero, List.getElem?_cons_succ] at t0 t3
  have HMY := qh (show wy.heap[mp]? = some (mapO (entsV (wordD br))) from (S.out.pg.2.block mp hmp (fun e => by injection e with e; omega)).trans HMP.out)
  go_upto_region 3 with fail
  go_cut [7, 8] (fun fv iv wc => ∃ f9 i9, f9 = fv ∧ i9 = iv ∧ Hid (SameW wy wc ∧ SecAt br t_t f9 i9))
  case first =>
   by_cases h1 : t_t = sConst
   ·subst h1
    have hl := look_y (br := br) (t := sConst) (v := (.func (.func 81) #[.pointer (some ⟨br, 0, none⟩)] #[])) (by rfl) wy mp HMY.out
    go_wp2_with fail
    go_meet
    exact ⟨_, _, rfl, rfl, qh ⟨rfl, .inl ⟨rfl, rfl, rfl⟩⟩⟩
   ·skip
    by_cases h2 : t_t = sType
    ·subst h2
     have hl := look_y (br := br) (t := sType) (v := (.func (.func 82) #[.pointer (some ⟨br, 0, none⟩)] #[])) (by rfl) wy mp HMY.out
     go_wp2_with fail
     go_meet
     exact ⟨_, _, rfl, rfl, qh ⟨rfl, .inr (.inl ⟨rfl, rfl, rfl⟩)⟩⟩
    ·skip
     by_cases h3 : t_t = sVar
     ·subst h3
      have hl := look_y (br := br) (t := sVar) (v := (.func (.func 83) #[.pointer (some ⟨br, 0, none⟩)] #[])) (by rfl) wy mp HMY.out
      go_wp2_with fail
      go_meet
      exact ⟨_, _, rfl, rfl, qh ⟨rfl, .inr (.inr (.inl ⟨rfl, rfl, rfl⟩))⟩⟩
     ·skip
      have hl := look_no (br := br) (t := t_t) (by intro x hx; simp only [wordD, List.mem_cons, List.not_mem_nil, or_false] at hx; rcases hx with rfl | rfl | rfl <;> first | exact fun e => h1 e.symm | exact fun e => h2 e.symm | exact fun e => h3 e.symm) wy mp HMY.out
      go_wp2_with fail
      go_meet
      exact ⟨_, _, rfl, rfl, qh ⟨rfl, .inr (.inr (.inr ⟨h1, h2, h3, rfl⟩))⟩⟩
  case rest =>
   obtain ⟨fv, iv, rfl, rfl, hc3⟩ := hcut
   obtain rfl : wy = _ := hc3.out.1
   have HC3 := qh hc3.out.2
   clear hc3
   go_upto_region 5 with fail
   go_cut [27] (fun v wc => ∃ v9, v9 = v ∧ Hid (SameW wy wc ∧ SecIs br (tk L j) fv v9))
   case first =>
    have hc9 := HC3.out
    unfold SecAt at hc9
    rcases hc9 with ⟨rfl, rfl, rfl⟩ | ⟨rfl, rfl, rfl⟩ | ⟨rfl, rfl, rfl⟩ | ⟨h1, h2, h3, rfl⟩
    ·by_cases hk : k_t = 6
     ·have k6 : ((k_t : Int) == 6) = true := by rw [hk]; rfl
      clear hk
      have hk : k_t = 6 := by have := beq_iff_eq.1 k6; omega
      have HK6 := qh hk
      clear hk
      go_wp2_with fail
      go_meet
      exact ⟨_, rfl, qh ⟨rfl, .inl ⟨rfl, by rw [HPt.out]; unfold isWd6 tkOf; simp [HK6.out], rfl⟩⟩⟩
     ·have k6 : ((k_t : Int) == 6) = false := by rw [beq_eq_false_iff_ne]; omega
      have HK6 := qh hk
      clear hk
      go_wp2_with fail
      go_meet
      exact ⟨_, rfl, qh ⟨rfl, .inr (.inr (.inr ⟨rfl, by rw [HPt.out]; unfold isWd6 tkOf; simp [HK6.out], by rw [HPt.out]; unfold isWd6 tkOf; simp [HK6.out], by rw [HPt.out]; unfold isWd6 tkOf; simp [HK6.out]⟩))⟩⟩
    ·by_cases hk : k_t = 6
     ·have k6 : ((k_t : Int) == 6) = true := by rw [hk]; rfl
      clear hk
      have hk : k_t = 6 := by have := beq_iff_eq.1 k6; omega
      have HK6 := qh hk
      clear hk
      go_wp2_with fail
      go_meet
      exact ⟨_, rfl, qh ⟨rfl, .inr (.inl ⟨rfl, by rw [HPt.out]; unfold isWd6 tkOf; simp [HK6.out], rfl⟩)⟩⟩
     ·have k6 : ((k_t : Int) == 6) = false := by rw [beq_eq_false_iff_ne]; omega
      have HK6 := qh hk
      clear hk
      go_wp2_with fail
      go_meet
      exact ⟨_, rfl, qh ⟨rfl, .inr (.inr (.inr ⟨rfl, by rw [HPt.out]; unfold isWd6 tkOf; simp [HK6.out], by rw [HPt.out]; unfold isWd6 tkOf; simp [HK6.out], by rw [HPt.out]; unfold isWd6 tkOf; simp [HK6.out]⟩))⟩⟩
    ·by_cases hk : k_t = 6
     ·have k6 : ((k_t : Int) == 6) = true := by rw [hk]; rfl
      clear hk
      have hk : k_t = 6 := by have := beq_iff_eq.1 k6; omega
      have HK6 := qh hk
      clear hk
      go_wp2_with fail
      go_meet
      exact ⟨_, rfl, qh ⟨rfl, .inr (.inr (.inl ⟨rfl, by rw [HPt.out]; unfold isWd6 tkOf; simp [HK6.out], rfl⟩))⟩⟩
     ·have k6 : ((k_t : Int) == 6) = false := by rw [beq_eq_false_iff_ne]; omega
      have HK6 := qh hk
      clear hk
      go_wp2_with fail
      go_meet
      exact ⟨_, rfl, qh ⟨rfl, .inr (.inr (.inr ⟨rfl, by rw [HPt.out]; unfold isWd6 tkOf; simp [HK6.out], by rw [HPt.out]; unfold isWd6 tkOf; simp [HK6.out], by rw [HPt.out]; unfold isWd6 tkOf; simp [HK6.out]⟩))⟩⟩
    ·have HH := qh (And.intro h1 (And.intro h2 h3))
     clear h1 h2 h3
     generalize hk6 : ((k_t : Int) == 6) = b6
     cases b6
     all_goals
      go_wp2_with fail
      go_meet
      exact ⟨_, rfl, qh ⟨rfl, .inr (.inr (.inr ⟨rfl, by rw [HPt.out]; unfold isWd6 tkOf; simp [HH.out.1], by rw [HPt.out]; unfold isWd6 tkOf; simp [HH.out.2.1], by rw [HPt.out]; unfold isWd6 tkOf; simp [HH.out.2.2]⟩))⟩⟩
   case rest =>
    obtain ⟨v9, rfl, hc5⟩ := hcut
    obtain rfl : wy = _ := hc5.out.1
    have hc9 := hc5.out.2
    clear HC3 hc5 t0 t3
    unfold SecIs at hc9
    rcases hc9 with ⟨rfl, h1, rfl⟩ | ⟨rfl, h2, rfl⟩ | ⟨rfl, h3, rfl⟩ | ⟨rfl, h1, h2, h3⟩
    ·skip
     obtain ⟨m1, f1, hlt⟩ := S.out.pg.1.at_
     have x0 : (0 : Int) ≤ (j : Int) := by omega
     have S := qh (S.out.inc h1 (isWd6_no _))
     have HG := qh (HG.out.grown (Lx.grown_set wy br 1 (.int .i64 (j + 1 : Nat))) hbo)
     have hjl := S.out.le
     go_wp2_with fail
     go_loopg [4] (L.length + 1) (fun gh2 sv wq => ∃ (lv : Value) (acc : List T1) (xs : List Value) (j2 f2 : Nat), lv = sv ∧ j < j2 ∧ L.length + 1 - j2 ≤ gh2 ∧ L.length < j2 + f2 ∧ acc.length ≤ j2 ∧ Hid (S1 w0 wb wq br c A L res (bindP (secR (constF g) f2 acc) (declsR g ty bl df f)) j2) ∧ Hid (LG wb.heap.size wq lv acc xs))
     case atStart => exact ⟨_, _, _, j + 1, g, rfl, by omega, by omega, by omega, by omega, S, HG⟩
     case round =>
      clear S HG
      obtain ⟨lv, acc, xs, j2, f2, rfl, hjj, hgh2, hf2, hac, S, HG⟩ := hrel
      have hjl := S.out.le
      obtain ⟨f2, rfl⟩ : ∃ f', f2 = f' + 1 := ⟨f2 - 1, by omega⟩
      obtain ⟨A8, c8, rfl, _⟩ := HG.out.form
      have S := qh (S.out.of (q := if isNm (tk L j2) = true then bindP (constF g) fun x => needF sSem (bindP (secR (constF g) f2 (acc ++ [x])) (declsR g ty bl df f)) else declsR g ty bl df f acc) (by rw [sec_step]; rfl))
      go_wp2_with fail
      (with_reducible refine S.out.named HT.out ?_)
      clear S
      intro wx S hg
      have HG := qh (HG.out.grown hg.out hbo)
      cases hN : isNm (tk L j2) with
      | true =>
        have S := qh (S.out.yes hN)
        have HZ := qh S.out.pg.2.size
        go_wp2_with fail
        (with_reducible refine S.out.tree (consts_any df HT.out hgL _ S.out.le _ S.out.pg.1) (g2_const (g := g)) ?_ ?_)
        ·intro k w1 h hg; go_wp2; exact ⟨rfl, S1.errB h.out (grown_trans HB.out.pg.2 hg.out) _⟩
        clear S
        intro x bx j3 wx hj3 S hg Hx
        have HX := qh (HG.out.new Hx.out HZ.out)
        have HG := qh (HG.out.grown hg.out hbo)
        clear HZ Hx
        have hwx := S.out.pg.2.size
        have hjl := S.out.le
        go_wp2_with (at_builtin; refine wpList_pushL rfl _ _ rfl (m := wx.heap.size) (t := x) S.out HO.out nl hwx HG.out (by omega) HX.out rfl rfl rfl ?_; clear S HX HG; intro g1 cap1 xs1 wx S HG hg1; clear hg1)
        go_wp2_with fail
        (with_reducible refine S.out.need HT.out rfl ?_ ?_)
        ·intro k w1 h hg; go_wp2; exact ⟨rfl, S1.errB h.out (grown_trans HB.out.pg.2 hg.out) _⟩
        clear S
        intro wx S hg
        have HG := qh (HG.out.grown hg.out hbo)
        have hjl := S.out.le
        go_wp2
        go_roundg (L.length + 1 - (j3 + 1))
        case rel => exact ⟨_, _, _, j3 + 1, f2, by rfl, by omega, by omega, by omega, by simp only [List.length_append, List.length_cons, List.length_nil]; omega, S, HG⟩
        case measure => omega
      | false =>
        have S := qh (S.out.no (by rw [hN]; simp))
        have hjl := S.out.le
        go_wp2
        go_roundg (L.length + 1 - j2)
        case rel => exact ⟨_, _, _, j2, f, by rfl, by omega, by omega, by omega, by omega, S, HG⟩
        case measure => omega
    ·skip
     have S := qh (S.out.of (q := tokP (isWd6 sType) (fun _ => bindP (secR (typeF ty df) g acc) (declsR g ty bl df f)) (tokP (isWd6 sVar) (fun _ => bindP (secR (varF g ty) g acc) (declsR g ty bl df f)) (posP fun t => if tT sProc t = true then bindP (procF g bl df) fun x => declsR g ty bl df f (acc ++ [x]) else if (tT sModule t && !df) = true then bindP (modF g bl) fun x => declsR g ty bl df f (acc ++ [x]) else retP acc))) (by rw [tok_n (wd_ne h2 (by decide))]))
     obtain ⟨m1, f1, hlt⟩ := S.out.pg.1.at_
     have x0 : (0 : Int) ≤ (j : Int) := by omega
     have S := qh (S.out.inc h2 (isWd6_no _))
     have HG := qh (HG.out.grown (Lx.grown_set wy br 1 (.int .i64 (j + 1 : Nat))) hbo)
     have hjl := S.out.le
     go_wp2_with fail
     go_loopg [4] (L.length + 1) (fun gh2 sv wq => ∃ (lv : Value) (acc : List T1) (xs : List Value) (j2 f2 : Nat), lv = sv ∧ j < j2 ∧ L.length + 1 - j2 ≤ gh2 ∧ L.length < j2 + f2 ∧ acc.length ≤ j2 ∧ Hid (S1 w0 wb wq br c A L res (bindP (secR (typeF ty df) f2 acc) (declsR g ty bl df f)) j2) ∧ Hid (LG wb.heap.size wq lv acc xs))
     case atStart => exact ⟨_, _, _, j + 1, g, rfl, by omega, by omega, by omega, by omega, S, HG⟩
     case round =>
      clear S HG
      obtain ⟨lv, acc, xs, j2, f2, rfl, hjj, hgh2, hf2, hac, S, HG⟩ := hrel
      have hjl := S.out.le
      obtain ⟨f2, rfl⟩ : ∃ f', f2 = f' + 1 := ⟨f2 - 1, by omega⟩
      obtain ⟨A8, c8, rfl, _⟩ := HG.out.form
      have S := qh (S.out.of (q := if isNm (tk L j2) = true then bindP (typeF ty df) fun x => needF sSem (bindP (secR (typeF ty df) f2 (acc ++ [x])) (declsR g ty bl df f)) else declsR g ty bl df f acc) (by rw [sec_step]; rfl))
      go_wp2_with fail
      (with_reducible refine S.out.named HT.out ?_)
      clear S
      intro wx S hg
      have HG := qh (HG.out.grown hg.out hbo)
      cases hN : isNm (tk L j2) with
      | true =>
        have S := qh (S.out.yes hN)
        have HZ := qh S.out.pg.2.size
        go_wp2_with fail
        (with_reducible refine S.out.tree (types_any df HT.out hgL hty HTy _ (Nat.zero_le _) S.out.le _ S.out.pg.1) (g2_type hty) ?_ ?_)
        ·intro k w1 h hg; go_wp2; exact ⟨rfl, S1.errB h.out (grown_trans HB.out.pg.2 hg.out) _⟩
        clear S
        intro x bx j3 wx hj3 S hg Hx
        have HX := qh (HG.out.new Hx.out HZ.out)
        have HG := qh (HG.out.grown hg.out hbo)
        clear HZ Hx
        have hwx := S.out.pg.2.size
        have hjl := S.out.le
        go_wp2_with (at_builtin; refine wpList_pushL rfl _ _ rfl (m := wx.heap.size) (t := x) S.out HO.out nl hwx HG.out (by omega) HX.out rfl rfl rfl ?_; clear S HX HG; intro g1 cap1 xs1 wx S HG hg1; clear hg1)
        go_wp2_with fail
        (with_reducible refine S.out.need HT.out rfl ?_ ?_)
        ·intro k w1 h hg; go_wp2; exact ⟨rfl, S1.errB h.out (grown_trans HB.out.pg.2 hg.out) _⟩
        clear S
        intro wx S hg
        have HG := qh (HG.out.grown hg.out hbo)
        have hjl := S.out.le
        go_wp2
        go_roundg (L.length + 1 - (j3 + 1))
        case rel => exact ⟨_, _, _, j3 + 1, f2, by rfl, by omega, by omega, by omega, by simp only [List.length_append, List.length_cons, List.length_nil]; omega, S, HG⟩
        case measure => omega
      | false =>
        have S := qh (S.out.no (by rw [hN]; simp))
        have hjl := S.out.le
        go_wp2
        go_roundg (L.length + 1 - j2)
        case rel => exact ⟨_, _, _, j2, f, by rfl, by omega, by omega, by omega, by omega, S, HG⟩
        case measure => omega
    ·skip
     have S := qh (S.out.of (q := tokP (isWd6 sVar) (fun _ => bindP (secR (varF g ty) g acc) (declsR g ty bl df f)) (posP fun t => if tT sProc t = true then bindP (procF g bl df) fun x => declsR g ty bl df f (acc ++ [x]) else if (tT sModule t && !df) = true then bindP (modF g bl) fun x => declsR g ty bl df f (acc ++ [x]) else retP acc)) (by rw [tok_n (wd_ne h3 (by decide)), tok_n (wd_ne h3 (by decide))]))
     obtain ⟨m1, f1, hlt⟩ := S.out.pg.1.at_
     have x0 : (0 : Int) ≤ (j : Int) := by omega
     have S := qh (S.out.inc h3 (isWd6_no _))
     have HG := qh (HG.out.grown (Lx.grown_set wy br 1 (.int .i64 (j + 1 : Nat))) hbo)
     have hjl := S.out.le
     go_wp2_with fail
     go_loopg [4] (L.length + 1) (fun gh2 sv wq => ∃ (lv : Value) (acc : List T1) (xs : List Value) (j2 f2 : Nat), lv = sv ∧ j < j2 ∧ L.length + 1 - j2 ≤ gh2 ∧ L.length < j2 + f2 ∧ acc.length ≤ j2 ∧ Hid (S1 w0 wb wq br c A L res (bindP (secR (varF g ty) f2 acc) (declsR g ty bl df f)) j2) ∧ Hid (LG wb.heap.size wq lv acc xs))
     case atStart => exact ⟨_, _, _, j + 1, g, rfl, by omega, by omega, by omega, by omega, S, HG⟩
     case round =>
      clear S HG
      obtain ⟨lv, acc, xs, j2, f2, rfl, hjj, hgh2, hf2, hac, S, HG⟩ := hrel
      have hjl := S.out.le
      obtain ⟨f2, rfl⟩ : ∃ f', f2 = f' + 1 := ⟨f2 - 1, by omega⟩
      obtain ⟨A8, c8, rfl, _⟩ := HG.out.form
      have S := qh (S.out.of (q := if isNm (tk L j2) = true then bindP (varF g ty) fun x => needF sSem (bindP (secR (varF g ty) f2 (acc ++ [x])) (declsR g ty bl df f)) else declsR g ty bl df f acc) (by rw [sec_step]; rfl))
      go_wp2_with fail
      (with_reducible refine S.out.named HT.out ?_)
      clear S
      intro wx S hg
      have HG := qh (HG.out.grown hg.out hbo)
      cases hN : isNm (tk L j2) with
      | true =>
        have S := qh (S.out.yes hN)
        have HZ := qh S.out.pg.2.size
        go_wp2_with fail
        (with_reducible refine S.out.tree (vars_any df HT.out hgL hty HTy _ (Nat.zero_le _) S.out.le _ S.out.pg.1) (g2_var hty) ?_ ?_)
        ·intro k w1 h hg; go_wp2; exact ⟨rfl, S1.errB h.out (grown_trans HB.out.pg.2 hg.out) _⟩
        clear S
        intro x bx j3 wx hj3 S hg Hx
        have HX := qh (HG.out.new Hx.out HZ.out)
        have HG := qh (HG.out.grown hg.out hbo)
        clear HZ Hx
        have hwx := S.out.pg.2.size
        have hjl := S.out.le
        go_wp2_with (at_builtin; refine wpList_pushL rfl _ _ rfl (m := wx.heap.size) (t := x) S.out HO.out nl hwx HG.out (by omega) HX.out rfl rfl rfl ?_; clear S HX HG; intro g1 cap1 xs1 wx S HG hg1; clear hg1)
        go_wp2_with fail
        (with_reducible refine S.out.need HT.out rfl ?_ ?_)
        ·intro k w1 h hg; go_wp2; exact ⟨rfl, S1.errB h.out (grown_trans HB.out.pg.2 hg.out) _⟩
        clear S
        intro wx S hg
        have HG := qh (HG.out.grown hg.out hbo)
        have hjl := S.out.le
        go_wp2
        go_roundg (L.length + 1 - (j3 + 1))
        case rel => exact ⟨_, _, _, j3 + 1, f2, by rfl, by omega, by omega, by omega, by simp only [List.length_append, List.length_cons, List.length_nil]; omega, S, HG⟩
        case measure => omega
      | false =>
        have S := qh (S.out.no (by rw [hN]; simp))
        have hjl := S.out.le
        go_wp2
        go_roundg (L.length + 1 - j2)
        case rel => exact ⟨_, _, _, j2, f, by rfl, by omega, by omega, by omega, by omega, S, HG⟩
        case measure => omega
    ·skip
     have S := qh (S.out.of (q := if tT sProc (tk L j) = true then bindP (procF g bl df) fun x => declsR g ty bl df f (acc ++ [x]) else if (tT sModule (tk L j) && !df) = true then bindP (modF g bl) fun x => declsR g ty bl df f (acc ++ [x]) else retP acc) (by rw [tok_n h1, tok_n h2, tok_n h3]; rfl))
     go_wp2_with fail
     (with_reducible refine S.out.is HT.out rfl ?_)
     clear S
     intro wx S hg
     have HG := qh (HG.out.grown hg.out hbo)
     cases hP : isT L j sProc with
     | true =>
       have S := qh (S.out.yes hP)
       have HZ := qh S.out.pg.2.size
       go_wp2_with fail
       (with_reducible refine S.out.treeX (procedure_any df HT.out hgL hbl HBl _ (by omega) S.out.le _ S.out.pg.1) (g2_proc hbl) (proc_lt hbl _) ?_ ?_)
       ·intro k w1 h hg; go_wp2; exact ⟨rfl, S1.errB h.out (grown_trans HB.out.pg.2 hg.out) _⟩
       clear S
       intro x bx j3 wx hj3 S hg Hx
       have HX := qh (HG.out.new Hx.out HZ.out)
       have HG := qh (HG.out.grown hg.out hbo)
       clear HZ Hx
       have hwx := S.out.pg.2.size
       have hjl := S.out.le
       go_wp2_with (at_builtin; refine wpList_pushL rfl _ _ rfl (m := wx.heap.size) (t := x) S.out HO.out nl hwx HG.out (by omega) HX.out rfl rfl rfl ?_; clear S HX HG; intro g1 cap1 xs1 wx S HG hg1; clear hg1)
       have hjl := S.out.le
       go_wp2
       go_roundg (L.length + 1 - j3)
       case rel => exact ⟨_, _, _, j3, f, by rfl, by omega, by omega, by omega, by simp only [List.length_append, List.length_cons, List.length_nil]; omega, S, HG⟩
       case measure => omega
     | false =>
       have S := qh (S.out.no (by rw [show tT sProc (tk L j) = false from hP]; simp))
       go_wp2_with fail
       (with_reducible refine S.out.is HT.out rfl ?_)
       clear S
       intro wx S hg
       have HG := qh (HG.out.grown hg.out hbo)
       cases hM : isT L j sModule with
       | true =>
         cases df with
         | true =>
           have S := qh (S.out.no (by simp))
           have SJ := qh (HB.out.join S.out)
           have hjl := S.out.le
           go_wp2
           go_ret
           rw [HME.out]
           exact SJ.out.shut HG.out HB.out.pg.2.size (by omega)
         | false =>
           have S := qh (S.out.yes (by rw [show tT sModule (tk L j) = true from hM]; rfl))
           have HZ := qh S.out.pg.2.size
           go_wp2_with fail
           (with_reducible refine S.out.treeX (module_any HT.out hgL hbl HBl _ (by omega) S.out.le _ S.out.pg.1) (g2_mod hbl) (mod_lt hbl _) ?_ ?_)
           ·intro k w1 h hg; go_wp2; exact ⟨rfl, S1.errB h.out (grown_trans HB.out.pg.2 hg.out) _⟩
           clear S
           intro x bx j3 wx hj3 S hg Hx
           have HX := qh (HG.out.new Hx.out HZ.out)
           have HG := qh (HG.out.grown hg.out hbo)
           clear HZ Hx
           have hwx := S.out.pg.2.size
           have hjl := S.out.le
           go_wp2_with (at_builtin; refine wpList_pushL rfl _ _ rfl (m := wx.heap.size) (t := x) S.out HO.out nl hwx HG.out (by omega) HX.out rfl rfl rfl ?_; clear S HX HG; intro g1 cap1 xs1 wx S HG hg1; clear hg1)
           have hjl := S.out.le
           go_wp2
           go_roundg (L.length + 1 - j3)
           case rel => exact ⟨_, _, _, j3, f, by rfl, by omega, by omega, by omega, by simp only [List.length_append, List.length_cons, List.length_nil]; omega, S, HG⟩
           case measure => omega
       | false =>
         have S := qh (S.out.no (by rw [show tT sModule (tk L j) = false from hM]; simp))
         have SJ := qh (HB.out.join S.out)
         have hjl := S.out.le
         go_wp2
         go_ret
         rw [HME.out]
         exact SJ.out.shut HG.out HB.out.pg.2.size (by omega)
end De
end Go.Proofs.YtkemhmfdooghkaaGreatDoor
