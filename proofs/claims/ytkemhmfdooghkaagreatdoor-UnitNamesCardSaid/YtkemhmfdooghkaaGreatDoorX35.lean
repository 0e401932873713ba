import Derived.Test.YtkemhmfdooghkaaGreatDoorX34
set_option linter.unusedSimpArgs false
set_option linter.unusedVariables false
set_option maxRecDepth 100000
set_option maxHeartbeats 6400000
namespace Go.Proofs.YtkemhmfdooghkaaGreatDoor
namespace St
open Go.RowKit
open Tr (Nd Fo RepS RepN Rep cellsN)
open Lx (Tk noTk Blk run_store_complexL TokAt)
open Fl
open Ex
attribute [local go_sem] run_store_complexL run_fieldY0 run_field1 run_field3
section
variable {g : Nat} {bd : Par T1} {L : List PT} {j : Nat} {R : List T1 → Par T1}
theorem stm_find : ∀ {l : List (ByteArray × (Nat × Nat → Par T1))} {s : ByteArray} {q : Nat × Nat → Par T1}, l.find? (fun x => decide (x.1 = (tk L j).1.text)) = some (s, q) → (tk L j).1.kind = 6 → bindP (stmL g l) R L j = bindP (q (tk L j).2.1) (fun x => R [x]) L (j + 1)
 | [], _, _, h, _ => by cases h
 | (s0, q0) :: l, s, q, h, hk => by
   show bindP (tokP (isWd6 s0) (fun t => bindP (q0 t.2.1) fun x => retP [x]) (stmL g l)) R L j = _
   rw [sb_tok]
   by_cases e : s0 = (tk L j).1.text
   ·rw [List.find?_cons_of_pos (by simpa using e)] at h
    injection h with h
    injection h with h1 h2
    subst h1 h2
    rw [tok_y (yw hk e.symm)]
    simp only [sb_assoc, sb_ret]
   ·rw [List.find?_cons_of_neg (by simpa using e)] at h
    rw [tok_n (nw rfl fun h => e h.symm)]
    exact stm_find h hk
theorem stm_no {l : List (ByteArray × (Nat × Nat → Par T1))} (h : ∀ x ∈ l, isWd6 x.1 (tk L j) = false) : bindP (stmL g l) R L j = (if isNm (tk L j) = true then bindP (plainS g) fun x => R [x] else R []) L j := by
 have e : bindP (stmL g l) R L j = bindP (stmL g []) R L j := by unfold bindP; rw [stm_skipL l h]
 rw [e]
 show bindP (posP fun t => if isNm t = true then bindP (plainS g) fun x => retP [x] else retP []) R L j = _
 rw [sb_pos]
 show bindP (if isNm (tk L j) = true then bindP (plainS g) fun x => retP [x] else retP []) R L j = _
 rw [sb_ite]
 simp only [sb_assoc, sb_ret]
theorem body_y1 {f : Nat} {acc : List T1} {Q : List T1 → Par T1} : bindP (bodyR g bd (f + 1) acc) Q = bindP (stmL g (alts g bd)) fun s => tokP (tT sSem) (fun _ => bindP (bodyR g bd f (acc ++ s)) Q) (Q (acc ++ s)) := by
 rw [bodyR]
 simp only [sb_assoc, sb_tok, sb_ret]
 rfl
theorem none_wd {l : List (ByteArray × (Nat × Nat → Par T1))} {t : PT} (h : l.find? (fun x => decide (x.1 = t.1.text)) = none) : ∀ x ∈ l, isWd6 x.1 t = false := fun x hx => nw rfl fun e => by
 have := List.find?_eq_none.1 h x hx
 exact this (decide_eq_true e.symm)
end
theorem S1.jump {β : Type} {w0 w wx : World} {br c j : Nat} {A : Option Addr} {L : List PT} {res : Except Nat (β × Nat)} {p q : Par β} (S : S1 w0 w wx br c A L res p j) (h : p L j = q L (j + 1)) (hj : j < L.length) : S1 w0 w (wx.setCell ⟨br, 1, none⟩ (.int .i64 (j + 1 : Nat))) br c A L res q (j + 1) :=
 ⟨⟨(S.pg.1.set_ (j + 1)).1, grown_trans S.pg.2 (S.pg.1.set_ (j + 1)).2⟩, S.eq.trans h, hj⟩
theorem step_pushKm {β : Type} {w0 w wq : World} {br c i' j : Nat} {A : Option Addr} {L : List PT} {res : Except Nat (β × Nat)} {p : Par β} {ops : Array Oper} {o : Oper} {a : Act} {Q : Exit → Act → World → Prop} {K : Act → World → Prop} {E : Prop} (hgd : o.guard = none) (s x : Operand) (ho : o.op = .call { callee := .builtin .append, args := #[s, x], argTypes := #[36, 36] })
 {b m n mp : Nat} {ls : List (Value × Value)} {d : Nd} {sv : Value} {acc l : List T1} {xs vs : List Value} (S : S1 w0 w wq br c A L res p j) (H0 : PInv w0 w br A c L i')
 (h : KG w.heap.size w.heap.size wq b d sv acc xs) (hM : wq.heap[mp]? = some (mapO ls)) (hl : acc.length ≤ 900000) (ht : RepS (fun y => w.heap.size ≤ y ∧ y ≠ b ∧ sv.ownBlock ≠ some y) wq (forest l) vs) (hn : vs.length = n) (hln : l.length = n) (hn0 : 0 < n) (hn9 : n ≤ 1000) (hv : ∀ v ∈ vs, v.oneCell' = true)
 (hs : a.eval s = sv) (hx : a.eval x = .slice (some ⟨m, 0, none⟩) n n) (hm : wq.heap.size = m)
 (hK : ∀ g cap xs' w', w'.cell? ⟨b, 4, none⟩ = some sv → w'.frozen? ⟨b, 4, none⟩ = false → b < w'.heap.size → Hid (S1 w0 w (w'.setCell ⟨b, 4, none⟩ (.slice (some ⟨g, 0, none⟩) (acc.length + n) cap)) br c A L res p j) →
   Hid (KG w.heap.size w.heap.size (w'.setCell ⟨b, 4, none⟩ (.slice (some ⟨g, 0, none⟩) (acc.length + n) cap)) b d (.slice (some ⟨g, 0, none⟩) (acc.length + n) cap) (acc ++ l) xs') → Hid ((w'.setCell ⟨b, 4, none⟩ (.slice (some ⟨g, 0, none⟩) (acc.length + n) cap)).heap[mp]? = some (mapO ls)) → K (a.put o.dst (.slice (some ⟨g, 0, none⟩) (acc.length + n) cap)) w') :
 if Region.wanted o (yielded ops a.tmps) = true then Oper.wp Tryz.prog o a (wq.alloc (.cells vs.toArray 31)) K Q else E := by
 subst hm
 obtain ⟨i0, hi0, hz0, hz1, hz2⟩ := info_parts infoN
 have hlen := h.len
 have Q9 := kid_facts (cs := vs.toArray) wq.heap.size rfl (Nat.le_trans h.kn.low (Nat.le_of_lt h.kn.blk.lt)) h.kn.own (by omega) (by simpa using hv) (by simp; omega)
 obtain ⟨q1, q2, q3, q4, q5⟩ := Q9.out
 simp only [List.size_toArray] at q1 q2 q3
 refine step_append_lies _ hgd s x _ ho w.heap.size 31 i0 _ 1 8 Tryz.underlying36 hi0 hz0 hz1 hz2 rfl (by omega) sv xs.length xs hs q5 ⟨wq.heap.size, 0, none⟩ n n vs hx (by omega) (by simpa using q1) hv hn0 (by omega) (by omega) q4 (wq.heap.size + 1) (by rw [World.size_alloc]) ?_
 intro g cap w' hown hgrow hor hlt
 obtain ⟨s4, s4f, hb5⟩ := KN.after (h.kn.below ((Below.refl _ _).alloc nl _)) hgrow
 rw [← hlen] at hK
 exact hK g cap _ w' s4 s4f hb5 (qh (S.hung H0 _ hgrow (fun k e => (h.kn.own.lt _ e).1) h.kn.low)) (qh (KG.steps (l := l) (h.below ((Below.refl _ _).alloc nl _)) (ht.below ((Below.refl _ _).alloc nl _)) (by omega) (by omega) hown hgrow (hor.imp id fun e => e.trans (World.size_alloc _ _).symm))) (qh (hm_hung hM h.kn hgrow))
theorem word_any {g : Nat} {w0 : World} {br c : Nat} {A : Option Addr} {L : List PT} (ht : TkS w0 br A L) (hgL : L.length < g) {bd : Par T1} (hbd : Good2 bd) {lo : Nat} (HBd : Hid (TyS 97 bd lo w0 br A c L)) (t : ByteArray) :
 ∃ (fv : Value) (lok : Bool), (∀ (w : World) (m : Nat), w.heap[m]? = some (mapO (entsV (wordE br))) → (Instr.lookup 139 (.map (some m)) (.string t) true).run Tryz.prog w = .ok (.tuple #[fv, .bool lok]) w) ∧ Hid ((lok = true ∧ ∃ (F : Nat) (q : Nat × Nat → Par T1), fv = .func (.func F) #[.pointer (some ⟨br, 0, none⟩)] #[] ∧ (alts g bd).find? (fun x => decide (x.1 = t)) = some (t, q) ∧ (∀ args w, (callFunc F args).run Tryz.prog w = .ok (.enter F args) w) ∧ ∀ p1 p2, Good2 (q (p1, p2)) ∧ ∀ j, lo ≤ j → j ≤ L.length → ∀ w, PInv w0 w br A c L j → Calls Tryz.prog F #[.pointer (some ⟨br, 0, none⟩), .complex .f64 (fl p1) (fl p2)] w (TreeR w.heap.size w0 w br A c L (q (p1, p2) L j))) ∨ (lok = false ∧ (alts g bd).find? (fun x => decide (x.1 = t)) = none)) := by
 have HT := qh ht
 by_cases h0 : t = sIf
 ·subst h0
  exact ⟨_, _, fun w m hm => look_yes (v := (.func (.func 108) #[.pointer (some ⟨br, 0, none⟩)] #[])) (by rfl) w m hm, qh (.inl ⟨rfl, _, ifS g bd, rfl, by rfl, (by intro _ _; kernel_rfl), fun p1 p2 => ⟨g2_ifS hbd, fun j hj hl w hw => ifs_y HT.out hgL hbd HBd j hj hl p1 p2 w hw⟩⟩)⟩
 by_cases h1 : t = sCase
 ·subst h1
  exact ⟨_, _, fun w m hm => look_yes (v := (.func (.func 109) #[.pointer (some ⟨br, 0, none⟩)] #[])) (by rfl) w m hm, qh (.inl ⟨rfl, _, caseS g bd, rfl, by rfl, (by intro _ _; kernel_rfl), fun p1 p2 => ⟨g2_caseS hbd, fun j hj hl w hw => cases_y HT.out hgL hbd HBd j hj hl p1 p2 w hw⟩⟩)⟩
 by_cases h2 : t = sWhile
 ·subst h2
  exact ⟨_, _, fun w m hm => look_yes (v := (.func (.func 110) #[.pointer (some ⟨br, 0, none⟩)] #[])) (by rfl) w m hm, qh (.inl ⟨rfl, _, whileS g bd, rfl, by rfl, (by intro _ _; kernel_rfl), fun p1 p2 => ⟨g2_whileS hbd, fun j hj hl w hw => whiles_y HT.out hgL hbd HBd j hj hl p1 p2 w hw⟩⟩)⟩
 by_cases h3 : t = sRepeat
 ·subst h3
  exact ⟨_, _, fun w m hm => look_yes (v := (.func (.func 111) #[.pointer (some ⟨br, 0, none⟩)] #[])) (by rfl) w m hm, qh (.inl ⟨rfl, _, repS g bd, rfl, by rfl, (by intro _ _; kernel_rfl), fun p1 p2 => ⟨g2_repS hbd, fun j hj hl w hw => repeats_y HT.out hgL hbd HBd j hj hl p1 p2 w hw⟩⟩)⟩
 by_cases h4 : t = sLoop
 ·subst h4
  exact ⟨_, _, fun w m hm => look_yes (v := (.func (.func 112) #[.pointer (some ⟨br, 0, none⟩)] #[])) (by rfl) w m hm, qh (.inl ⟨rfl, _, loopS bd, rfl, by rfl, (by intro _ _; kernel_rfl), fun p1 p2 => ⟨g2_loopS hbd, fun j hj hl w hw => loops_y HT.out hbd HBd j hj hl p1 p2 w hw⟩⟩)⟩
 by_cases h5 : t = sExit
 ·subst h5
  exact ⟨_, _, fun w m hm => look_yes (v := (.func (.func 113) #[.pointer (some ⟨br, 0, none⟩)] #[])) (by rfl) w m hm, qh (.inl ⟨rfl, _, exitS, rfl, by rfl, (by intro _ _; kernel_rfl), fun p1 p2 => ⟨g2_ret _, fun j hj hl w hw => exits_y HT.out j hl p1 p2 w hw⟩⟩)⟩
 by_cases h6 : t = sFor
 ·subst h6
  exact ⟨_, _, fun w m hm => look_yes (v := (.func (.func 114) #[.pointer (some ⟨br, 0, none⟩)] #[])) (by rfl) w m hm, qh (.inl ⟨rfl, _, forS g bd, rfl, by rfl, (by intro _ _; kernel_rfl), fun p1 p2 => ⟨g2_forS hbd, fun j hj hl w hw => fors_y HT.out hgL hbd HBd j hj hl p1 p2 w hw⟩⟩)⟩
 by_cases h7 : t = sWith
 ·subst h7
  exact ⟨_, _, fun w m hm => look_yes (v := (.func (.func 115) #[.pointer (some ⟨br, 0, none⟩)] #[])) (by rfl) w m hm, qh (.inl ⟨rfl, _, withS g bd, rfl, by rfl, (by intro _ _; kernel_rfl), fun p1 p2 => ⟨g2_withS hbd, fun j hj hl w hw => withs_y HT.out hgL hbd HBd j hj hl p1 p2 w hw⟩⟩)⟩
 by_cases h8 : t = sReturn
 ·subst h8
  exact ⟨_, _, fun w m hm => look_yes (v := (.func (.func 116) #[.pointer (some ⟨br, 0, none⟩)] #[])) (by rfl) w m hm, qh (.inl ⟨rfl, _, returnS g, rfl, by rfl, (by intro _ _; kernel_rfl), fun p1 p2 => ⟨g2_returnS, fun j hj hl w hw => returns_y HT.out hgL j hl p1 p2 w hw⟩⟩)⟩
 refine ⟨_, _, fun w m hm => look_no (fun x hx => ?_) w m hm, qh (.inr ⟨rfl, List.find?_eq_none.2 fun x hx => ?_⟩)⟩
 ·unfold wordE at hx
  simp only [List.mem_cons, List.not_mem_nil, or_false] at hx
  rcases hx with rfl | rfl | rfl | rfl | rfl | rfl | rfl | rfl | rfl <;> (intro e; exact (by assumption : ¬ t = _) e.symm)
 ·unfold alts at hx
  simp only [List.mem_cons, List.not_mem_nil, or_false] at hx
  rw [decide_eq_true_eq]
  rcases hx with rfl | rfl | rfl | rfl | rfl | rfl | rfl | rfl | rfl <;> (intro e; exact (by assumption : ¬ t = _) e.symm)
theorem insy_0 (br : Nat) (W : World) (m : Nat) (hm : W.heap.size = m) : (Instr.mapUpdate 139 (.map (some m)) (.string sIf) (.func (.func 108) #[.pointer (some ⟨br, 0, none⟩)] #[])).run Tryz.prog (W.alloc (.map #[] 0)) = .ok () (W.alloc (mapO (entsV ((wordE br).take 1)))) := ins_w ((wordE br).take 0) sIf _ (by simp [wordE]) W m hm
theorem insy_1 (br : Nat) (W : World) (m : Nat) (hm : W.heap.size = m) : (Instr.mapUpdate 139 (.map (some m)) (.string sCase) (.func (.func 109) #[.pointer (some ⟨br, 0, none⟩)] #[])).run Tryz.prog (W.alloc (mapO (entsV ((wordE br).take 1)))) = .ok () (W.alloc (mapO (entsV ((wordE br).take 2)))) := ins_w ((wordE br).take 1) sCase _ (by simp [wordE]) W m hm
theorem insy_2 (br : Nat) (W : World) (m : Nat) (hm : W.heap.size = m) : (Instr.mapUpdate 139 (.map (some m)) (.string sWhile) (.func (.func 110) #[.pointer (some ⟨br, 0, none⟩)] #[])).run Tryz.prog (W.alloc (mapO (entsV ((wordE br).take 2)))) = .ok () (W.alloc (mapO (entsV ((wordE br).take 3)))) := ins_w ((wordE br).take 2) sWhile _ (by simp [wordE]) W m hm
theorem insy_3 (br : Nat) (W : World) (m : Nat) (hm : W.heap.size = m) : (Instr.mapUpdate 139 (.map (some m)) (.string sRepeat) (.func (.func 111) #[.pointer (some ⟨br, 0, none⟩)] #[])).run Tryz.prog (W.alloc (mapO (entsV ((wordE br).take 3)))) = .ok () (W.alloc (mapO (entsV ((wordE br).take 4)))) := ins_w ((wordE br).take 3) sRepeat _ (by simp [wordE]) W m hm
theorem insy_4 (br : Nat) (W : World) (m : Nat) (hm : W.heap.size = m) : (Instr.mapUpdate 139 (.map (some m)) (.string sLoop) (.func (.func 112) #[.pointer (some ⟨br, 0, none⟩)] #[])).run Tryz.prog (W.alloc (mapO (entsV ((wordE br).take 4)))) = .ok () (W.alloc (mapO (entsV ((wordE br).take 5)))) := ins_w ((wordE br).take 4) sLoop _ (by simp [wordE]) W m hm
theorem insy_5 (br : Nat) (W : World) (m : Nat) (hm : W.heap.size = m) : (Instr.mapUpdate 139 (.map (some m)) (.string sExit) (.func (.func 113) #[.pointer (some ⟨br, 0, none⟩)] #[])).run Tryz.prog (W.alloc (mapO (entsV ((wordE br).take 5)))) = .ok () (W.alloc (mapO (entsV ((wordE br).take 6)))) := ins_w ((wordE br).take 5) sExit _ (by simp [wordE]) W m hm
theorem insy_6 (br : Nat) (W : World) (m : Nat) (hm : W.heap.size = m) : (Instr.mapUpdate 139 (.map (some m)) (.string sFor) (.func (.func 114) #[.pointer (some ⟨br, 0, none⟩)] #[])).run Tryz.prog (W.alloc (mapO (entsV ((wordE br).take 6)))) = .ok () (W.alloc (mapO (entsV ((wordE br).take 7)))) := ins_w ((wordE br).take 6) sFor _ (by simp [wordE]) W m hm
theorem insy_7 (br : Nat) (W : World) (m : Nat) (hm : W.heap.size = m) : (Instr.mapUpdate 139 (.map (some m)) (.string sWith) (.func (.func 115) #[.pointer (some ⟨br, 0, none⟩)] #[])).run Tryz.prog (W.alloc (mapO (entsV ((wordE br).take 7)))) = .ok () (W.alloc (mapO (entsV ((wordE br).take 8)))) := ins_w ((wordE br).take 7) sWith _ (by simp [wordE]) W m hm
theorem insy_8 (br : Nat) (W : World) (m : Nat) (hm : W.heap.size = m) : (Instr.mapUpdate 139 (.map (some m)) (.string sReturn) (.func (.func 116) #[.pointer (some ⟨br, 0, none⟩)] #[])).run Tryz.prog (W.alloc (mapO (entsV ((wordE br).take 8)))) = .ok () (W.alloc (mapO (entsV (wordE br)))) := ins_w ((wordE br).take 8) sReturn _ (by simp [wordE]) W m hm
theorem body_y {g : Nat} {w0 : World} {br c : Nat} {A : Option Addr} {L : List PT} (ht : TkS w0 br A L) (hgL : L.length < g) {bd : Par T1} (hbd : Good2 bd) {lo : Nat} (HBd : Hid (TyS 97 bd lo w0 br A c L)) (i : Nat) (hlo : lo ≤ i + 1) (hi : i ≤ L.length) (w : World) (h : PInv w0 w br A c L i) :
 Calls Tryz.prog 97 #[.pointer (some ⟨br, 0, none⟩)] w (TreeR w.heap.size w0 w br A c L (bodyG g bd L i)) := by
 have hbr := h.row.lt
 have H0 := qh h
 have HT := qh ht
 obtain ⟨res, hs0⟩ : ∃ r, r = bodyG g bd L i := ⟨_, rfl⟩
 rw [← hs0]
 have S := qh (S1.start h hi hs0)
 clear h ht hs0 hi
 go_enter Tryz.func97, Tryz.ntmps97
 unfold bodyG at S
 go_wp2_with fail
 (with_reducible refine S.out.now HT.out ?_)
 clear S
 intro k_p p1 p2 q3_p q4_p t_p n_p wx HPp S hg
 have NW := qh (new_0 (B0 := w.heap.size) (w := wx) S.out.pg.2.size 46 46 rfl p1 p2 sNil 0)
 go_wp2_with fail
 ((with_reducible refine NW.out.mono ?_); rintro e wx ⟨b, sv0, xs0, rfl, hb, hk⟩)
 have HK := qh (hk.lower S.out.pg.2.size)
 have S := qh (S.out.below hb)
 clear hb hk NW
 have hmk := @run_makeMap Tryz.prog
 have hmf : ∀ (fn : Fn) (first cap : Array Value) (w : World), (Instr.makeFunc fn first cap).run Tryz.prog w = .ok (.func fn first cap) w := fun _ _ _ _ => rfl
 have hi0 := insy_0 br
 have hi1 := insy_1 br
 have hi2 := insy_2 br
 have hi3 := insy_3 br
 have hi4 := insy_4 br
 have hi5 := insy_5 br
 have hi6 := insy_6 br
 have hi7 := insy_7 br
 have hi8 := insy_8 br
 go_wp2_with fail
 clear hmk hmf hi0 hi1 hi2 hi3 hi4 hi5 hi6 hi7 hi8
 have hbx := S.out.pg.1.row.lt
 have HM := qh (show (wx.alloc (mapO (entsV (wordE br)))).heap[wx.heap.size]? = some (mapO (entsV (wordE br))) from heap_alloc_new wx _)
 have S := qh (S.out.below ((Below.refl _ _).alloc nl (mapO (entsV (wordE br)))))
 have HK := qh (HK.out.below ((Below.refl _ _).alloc nl (mapO (entsV (wordE br)))))
 have hmb : wx.heap.size ≠ br := by omega
 generalize wx.alloc (mapO (entsV (wordE br))) = wb at *
 generalize wx.heap.size = mp at *
 go_loopg [] (L.length + 1) (fun gh wr => ∃ (acc : List T1) (sv : Value) (xs : List Value) (j f : Nat), i ≤ j ∧ L.length + 1 - j ≤ gh ∧ L.length < j + f ∧ acc.length ≤ j ∧ Hid (S1 w0 w wr br c A L res (bindP (bodyR g bd f acc) (fun l => retP (mk 46 (p1, p2) sNil 0 l))) j) ∧ Hid (KG w.heap.size w.heap.size wr b ⟨46, (p1, p2), sNil, 0⟩ sv acc xs) ∧ Hid (wr.heap[mp]? = some (mapO (entsV (wordE br)))))
 case atStart => exact ⟨_, _, _, i, g, by omega, by omega, by omega, Nat.zero_le _, S, HK, HM⟩
 case round =>
  clear S HK HM
  obtain ⟨acc, sv, xs, j, f, hij, hgh, hf0, hac, S, HK, HM⟩ := hrel
  have hjl0 := S.out.le
  have hlen := HT.out.toks.len
  obtain ⟨f, rfl⟩ : ∃ f', f = f' + 1 := ⟨f - 1, by omega⟩
  have S := qh (S.out.of (q := bindP (stmL g (alts g bd)) fun s => (tokP (tT sSem) (fun _ => bindP (bodyR g bd f (acc ++ s)) (fun l => retP (mk 46 (p1, p2) sNil 0 l))) ((fun l => retP (mk 46 (p1, p2) sNil 0 l)) (acc ++ s)))) (by rw [body_y1]))
  go_wp2_with fail
  (with_reducible refine S.out.now' HT.out ?_)
  clear S
  intro k_t t1 t2 q3_t q4_t t_t n_t wx HPt S hg
  have HK := qh (HK.out.grown hg.out hbr nl)
  have HM := qh (hm_grown HM.out hg.out hmb)
  have hbt := S.out.pg.1.row.lt
  have HBt := qh (Blk.new wx 40 #[.int .u8 k_t, .complex .f64 (fl t1) (fl t2), .complex .f64 (fl q3_t) (fl q4_t), .string t_t, .int .i64 n_t])
  have S := qh (S.out.below ((Below.refl _ _).alloc nl (.cells #[.int .u8 k_t, .complex .f64 (fl t1) (fl t2), .complex .f64 (fl q3_t) (fl q4_t), .string t_t, .int .i64 n_t] 40)))
  have HK := qh (HK.out.below ((Below.refl _ _).alloc nl (.cells #[.int .u8 k_t, .complex .f64 (fl t1) (fl t2), .complex .f64 (fl q3_t) (fl q4_t), .string t_t, .int .i64 n_t] 40)))
  have HM := qh (hm_below HM.out ((Below.refl _ _).alloc nl (.cells #[.int .u8 k_t, .complex .f64 (fl t1) (fl t2), .complex .f64 (fl q3_t) (fl q4_t), .string t_t, .int .i64 n_t] 40)))
  go_upto_region 4 with fail
  generalize wx.heap.size = bt at *
  generalize wx.alloc (.cells #[.int .u8 k_t, .complex .f64 (fl t1) (fl t2), .complex .f64 (fl q3_t) (fl q4_t), .string t_t, .int .i64 n_t] 40) = wy at *
  have t0 := HBt.out.cell 0
  have t3 := HBt.out.cell 3
  simp only [List.getElem?_toArray, List.getElem?_cons_zero, List.getElem?_cons_succ] at t0 t3
  obtain ⟨fv, lok, hl, HW⟩ := word_any HT.out hgL hbd HBd t_t
  have hl := hl wy mp HM.out
  go_upto_block 2 with fail
  clear hl t3
  go_cut [] (fun wc => Hid (∃ acc2 sv xs J, j ≤ J ∧ acc2.length ≤ J + 1 ∧ S1 w0 w wc br c A L res (tokP (tT sSem) (fun _ => bindP (bodyR g bd f acc2) (fun l => retP (mk 46 (p1, p2) sNil 0 l))) ((fun l => retP (mk 46 (p1, p2) sNil 0 l)) acc2)) J ∧ KG w.heap.size w.heap.size wc b ⟨46, (p1, p2), sNil, 0⟩ sv acc2 xs ∧ wc.heap[mp]? = some (mapO (entsV (wordE br)))))
  case first =>
   have hc9 := HW.out
   clear HW
   cases k6 : ((k_t : Int) == 6) with
   | true =>
     rcases hc9 with ⟨rfl, hw⟩ | ⟨rfl, hw⟩
     ·skip
      obtain ⟨F, q, rfl, hf, hev, hc⟩ := hw
      have hk6 : k_t = 6 := by have := beq_iff_eq.1 k6; omega
      subst hk6
      have hjl : j < L.length := by
       rcases Nat.lt_or_ge j L.length with h | h
       ·exact h
       ·have e := congrArg (fun t => t.1.kind) HPt.out
        rw [tk_end h] at e
        simp only [tkOf] at e
        cases e
      have S2 := S.out.jump (q := bindP (q (t1, t2)) fun x => (tokP (tT sSem) (fun _ => bindP (bodyR g bd f (acc ++ [x])) (fun l => retP (mk 46 (p1, p2) sNil 0 l))) ((fun l => retP (mk 46 (p1, p2) sNil 0 l)) (acc ++ [x])))) (by
       have e := stm_find (g := g) (L := L) (j := j) (l := alts g bd) (R := fun s => (tokP (tT sSem) (fun _ => bindP (bodyR g bd f (acc ++ s)) (fun l => retP (mk 46 (p1, p2) sNil 0 l))) ((fun l => retP (mk 46 (p1, p2) sNil 0 l)) (acc ++ s)))) (s := t_t) (q := q) (by rw [HPt.out]; exact hf) (by rw [HPt.out]; rfl)
       rw [HPt.out] at e
       exact e) hjl
      obtain ⟨m1, f1, hlt⟩ := S.out.pg.1.at_
      have x0 : (0 : Int) ≤ (j : Int) := by omega
      have HBt := qh (HBt.out.far (p := ⟨br, 1, none⟩) (show bt ≠ br by omega) (.int .i64 (j + 1 : Nat)))
      have HK := qh (HK.out.grown (S.out.pg.1.set_ (j + 1)).2 hbr nl)
      have HM := qh (hm_grown HM.out (S.out.pg.1.set_ (j + 1)).2 hmb)
      rw [show ((j + 1 : Nat) : Int) = (j : Int) + 1 from rfl] at S2 HBt HK HM
      clear S
      have S := qh S2
      clear S2
      go_upto_region 7 with fail
      clear m1 f1 hlt
      generalize wy.setCell ⟨br, 1, none⟩ (.int .i64 ((j : Int) + 1)) = wx at *
      have HBt := qh (HBt.out.drewN 1)
      have t1c : wx.drew.cell? ⟨bt, 1, none⟩ = some (.complex .f64 (fl t1) (fl t2)) := HBt.out.cell 1
      have hbz := HBt.out.lt
      have HKD := qh (HK.out.below ((Below.refl _ _).drew))
      have HKL := qh HK.out.len
      have D1 := qh ((S.out.below ((Below.refl _ _).drew)).treeD ((hc t1 t2).2 _ (by omega) S.out.le _ (S.out.pg.1.below ((Below.refl _ _).drew))) ((hc t1 t2).1))
      have HMD := qh (hm_below HM.out ((Below.refl _ _).drew))
      obtain ⟨m4, m4f, hbl4⟩ := HK.out.kn.facts
      clear S HK
      go_region_law (first
       | (go_simp; (with_reducible refine D1.out.mono ?_); rintro e x (⟨k, rfl, h, hgr⟩ | ⟨y, b_y, j3, rfl, hj3, S, hgr, hr⟩); (case' inl => exact ⟨rfl, S1.errT h.out hgr.out _⟩); have HK := qh (HKD.out.grown hgr.out hbr nl); have HY := qh (show RepS (KPy w.heap.size _ _) _ (forest [y]) [.pointer (some ⟨b_y, 0, none⟩)] from HKD.out.new hr.out nl); have HM := qh (hm_grown HMD.out hgr.out hmb); obtain ⟨t4, t4f, hbx⟩ := HK.out.kn.facts)
       | (refine step_pushKm (by rfl) _ _ (by rfl) (m := x.heap.size) (n := 1) (vs := [.pointer (some ⟨b_y, 0, none⟩)]) (l := [y]) S.out H0.out HK.out HM.out (by omega) (HY.out) (by rfl) (by rfl) (by decide) (by decide) (fun v hv => one_ptr _ v hv) (by rfl) (by rfl) (by rfl) ?_; clear S HK HM; intro g' cap xs' w7 u4 u4f hb7 S HK HM))
      all_goals
       have hjl3 := S.out.le
       go_wp2_with fail
       go_meet
       exact qh ⟨_, _, _, j3, by omega, by simp only [List.length_append, List.length_cons, List.length_nil]; omega, S.out, HK.out, HM.out⟩
     ·skip
      have S := qh (S.out.of (stm_no (none_wd (by rw [HPt.out]; exact hw))))
      cases hN : isNm (tk L j) with
      | true =>
        have hk1 : k_t = 1 := by rw [HPt.out] at hN; exact of_decide_eq_true hN
        have k1 : ((k_t : Int) == 1) = true := by rw [hk1]; rfl
        have S := qh (S.out.yes hN)
        go_wp2_with fail
        have HKD := qh (HK.out.below ((Below.refl _ _).drew))
        have HKL := qh HK.out.len
        have D1 := qh ((S.out.below ((Below.refl _ _).drew)).treeD (plain_y HT.out hgL _ S.out.le _ (S.out.pg.1.below ((Below.refl _ _).drew))) (g2_plainS))
        have HMD := qh (hm_below HM.out ((Below.refl _ _).drew))
        obtain ⟨m4, m4f, hbl4⟩ := HK.out.kn.facts
        clear S HK
        go_region_law (first
         | (go_simp; go_at_call 117; (with_reducible refine D1.out.mono ?_); rintro e x (⟨k, rfl, h, hgr⟩ | ⟨y, b_y, j3, rfl, hj3, S, hgr, hr⟩); (case' inl => exact ⟨rfl, S1.errT h.out hgr.out _⟩); have HK := qh (HKD.out.grown hgr.out hbr nl); have HY := qh (show RepS (KPy w.heap.size _ _) _ (forest [y]) [.pointer (some ⟨b_y, 0, none⟩)] from HKD.out.new hr.out nl); have HM := qh (hm_grown HMD.out hgr.out hmb); obtain ⟨t4, t4f, hbx⟩ := HK.out.kn.facts)
         | (refine step_pushKm (by rfl) _ _ (by rfl) (m := x.heap.size) (n := 1) (vs := [.pointer (some ⟨b_y, 0, none⟩)]) (l := [y]) S.out H0.out HK.out HM.out (by omega) (HY.out) (by rfl) (by rfl) (by decide) (by decide) (fun v hv => one_ptr _ v hv) (by rfl) (by rfl) (by rfl) ?_; clear S HK HM; intro g' cap xs' w7 u4 u4f hb7 S HK HM))
        all_goals
         have hjl3 := S.out.le
         go_wp2_with fail
         go_meet
         exact qh ⟨_, _, _, j3, by omega, by simp only [List.length_append, List.length_cons, List.length_nil]; omega, S.out, HK.out, HM.out⟩
      | false =>
        have hk1 : ¬ k_t = 1 := by rw [HPt.out] at hN; exact of_decide_eq_false hN
        have k1 : ((k_t : Int) == 1) = false := by rw [beq_eq_false_iff_ne]; omega
        have S := qh (S.out.no (by rw [hN]; simp))
        go_wp2_with fail
        go_meet
        exact qh ⟨acc, _, _, j, Nat.le_refl _, by omega, by have h := S.out; rw [List.append_nil] at h; exact h, HK.out, HM.out⟩
   | false =>
     have hk6 : ¬ k_t = 6 := by rw [beq_eq_false_iff_ne] at k6; omega
     clear hc9
     have S := qh (S.out.of (stm_no (fun x _ => St.k6 (by rw [HPt.out]; exact hk6))))
     cases hN : isNm (tk L j) with
     | true =>
       have hk1 : k_t = 1 := by rw [HPt.out] at hN; exact of_decide_eq_true hN
       have k1 : ((k_t : Int) == 1) = true := by rw [hk1]; rfl
       have S := qh (S.out.yes hN)
       go_wp2_with fail
       have HKD := qh (HK.out.below ((Below.refl _ _).drew))
       have HKL := qh HK.out.len
       have D1 := qh ((S.out.below ((Below.refl _ _).drew)).treeD (plain_y HT.out hgL _ S.out.le _ (S.out.pg.1.below ((Below.refl _ _).drew))) (g2_plainS))
       have HMD := qh (hm_below HM.out ((Below.refl _ _).drew))
       obtain ⟨m4, m4f, hbl4⟩ := HK.out.kn.facts
       clear S HK
       go_region_law (first
        | (go_simp; go_at_call 117; (with_reducible refine D1.out.mono ?_); rintro e x (⟨k, rfl, h, hgr⟩ | ⟨y, b_y, j3, rfl, hj3, S, hgr, hr⟩); (case' inl => exact ⟨rfl, S1.errT h.out hgr.out _⟩); have HK := qh (HKD.out.grown hgr.out hbr nl); have HY := qh (show RepS (KPy w.heap.size _ _) _ (forest [y]) [.pointer (some ⟨b_y, 0, none⟩)] from HKD.out.new hr.out nl); have HM := qh (hm_grown HMD.out hgr.out hmb); obtain ⟨t4, t4f, hbx⟩ := HK.out.kn.facts)
        | (refine step_pushKm (by rfl) _ _ (by rfl) (m := x.heap.size) (n := 1) (vs := [.pointer (some ⟨b_y, 0, none⟩)]) (l := [y]) S.out H0.out HK.out HM.out (by omega) (HY.out) (by rfl) (by rfl) (by decide) (by decide) (fun v hv => one_ptr _ v hv) (by rfl) (by rfl) (by rfl) ?_; clear S HK HM; intro g' cap xs' w7 u4 u4f hb7 S HK HM))
       all_goals
        have hjl3 := S.out.le
        go_wp2_with fail
        go_meet
        exact qh ⟨_, _, _, j3, by omega, by simp only [List.length_append, List.length_cons, List.length_nil]; omega, S.out, HK.out, HM.out⟩
     | false =>
       have hk1 : ¬ k_t = 1 := by rw [HPt.out] at hN; exact of_decide_eq_false hN
       have k1 : ((k_t : Int) == 1) = false := by rw [beq_eq_false_iff_ne]; omega
       have S := qh (S.out.no (by rw [hN]; simp))
       go_wp2_with fail
       go_meet
       exact qh ⟨acc, _, _, j, Nat.le_refl _, by omega, by have h := S.out; rw [List.append_nil] at h; exact h, HK.out, HM.out⟩
  case rest =>
   obtain ⟨acc2, sv2, xs2, J, hjJ, hac2, hc1, hc2, hc3⟩ := hcut.out
   clear S HK HM HBt HPt HW t0
   clear hcut
   have S := qh hc1
   have HK := qh hc2
   have HM := qh hc3
   clear hc1 hc2 hc3
   go_wp2_with fail
   (with_reducible refine S.out.eat HT.out ?_ ?_)
   ·clear S
    intro wx S hg hT
    have HK := qh (HK.out.grown hg.out hbr nl)
    have HM := qh (hm_grown HM.out hg.out hmb)
    have hjl2 := S.out.le
    go_wp2
    go_roundg (L.length + 1 - (J + 1))
    case rel => exact ⟨acc2, _, _, J + 1, f, by omega, by omega, by omega, by omega, S, HK, HM⟩
    case measure => omega
   ·clear S
    intro wx S hg hT
    have HK := qh (HK.out.grown hg.out hbr nl)
    go_wp2
    go_ret
    exact S.out.doneT (HK.out.done nl)
end St
end Go.Proofs.YtkemhmfdooghkaaGreatDoor
