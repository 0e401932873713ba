/- A part of the proof: U3. -/
import Derived.Test.YtkemhmfdooghkaaGreatDoorZ1
import Derived.Test.YtkemhmfdooghkaaGreatDoorZ20
import Derived.Deep.AppendLies
import Derived.Deep.LoopGhost
set_option linter.unusedSimpArgs false
set_option linter.unusedVariables false

section
namespace Go.Proofs.YtkemhmfdooghkaaGreatDoor.St
open Go.RowKit
open Tr (Nd Fo RepS RepN Rep cellsN)
open Lx (Tk noTk Blk run_store_complexL TokAt)
open Fl
open Ex
attribute [local go_sem] run_store_complexL run_field1 run_field3
structure TkS (w0 : World) (br : Nat) (A : Option Addr) (L : List PT) : Prop where
 toks : Toks w0 br A L
 low : ∀ ad, A = some ad → ad.block < w0.heap.size
def SnOK (F : Nat) (sp : Nat → Except Nat (T1 × Nat)) (lo : Nat) (w0 : World) (br : Nat) (A : Option Addr) (c : Nat) (L : List PT) : Prop :=
 ∀ j, lo ≤ j → j ≤ L.length → ∀ w, PInv w0 w br A c L j → Calls Tryz.prog F #[.pointer (some ⟨br, 0, none⟩)] w (TreeR w.heap.size w0 w br A c L (sp j))
section
variable {α β : Type} {p : Par α} {q : α → Par β} {L : List PT} {i j k : Nat} {a : α}
theorem bind_ok (h : p L i = .ok (a, j)) : bindP p q L i = q a L j := by unfold bindP; rw [h]
theorem bind_err (h : p L i = .error k) : bindP p q L i = .error k := by unfold bindP; rw [h]
theorem need_y {s : ByteArray} {p : Par α} (h : isT L i s = true) : needF s p L i = p L (i + 1) := if_pos h
theorem need_n {s : ByteArray} {p : Par α} (h : isT L i s = false) : needF s p L i = .error i := if_neg (show ¬ isT L i s = true by rw [h]; simp)
theorem tok_y {t : PT → Bool} {A : PT → Par α} {B : Par α} (h : t (tk L i) = true) : tokP t A B L i = A (tk L i) L (i + 1) := if_pos h
theorem tok_n {t : PT → Bool} {A : PT → Par α} {B : Par α} (h : t (tk L i) = false) : tokP t A B L i = B L i := if_neg (by rw [h]; simp)
theorem ret_ : retP a L i = .ok (a, i) := rfl
end
theorem add_block (ad : Addr) (j : Nat) : (ad.add j).block = ad.block := by unfold Addr.add; split <;> rfl
theorem row_at {w0 w : World} {br c i : Nat} {A : Option Addr} {L : List PT} (ht : TkS w0 br A L) (h : PInv w0 w br A c L i) : RowAt w A L := by
 refine ⟨⟨ht.toks.reads.1, fun h0 => ?_⟩, fun ad e => Nat.lt_of_lt_of_le (ht.low ad e) h.grown.size, ht.toks.len⟩
 obtain ⟨ad, e, hlt, hc⟩ := ht.toks.reads.2 h0
 refine ⟨ad, e, Nat.lt_of_lt_of_le hlt h.grown.size, fun j u hu => ?_⟩
 rw [← hc j u hu]
 have hne := ht.toks.far _ e
 exact World.cell?_of_block (by rw [add_block]; exact h.grown.block ad.block hlt (fun e => hne (by simpa using e)))
theorem new_lit {B : Nat} {w : World} (hw : B ≤ w.heap.size) (kI : Int) (kind : Nat) (hkI : kI = (kind : Int)) (p1 p2 : Nat) (name : ByteArray) (vs : List Value) (l : List T1) (m : Nat) (hm : w.heap.size = m) (n : Nat) (hn : vs.length = n) (hv : n ≤ 1000) (hk : RepN (fun x => B ≤ x) w (forest l) vs) :
 Calls Tryz.prog 33 #[.int .u8 kI, .complex .f64 (fl p1) (fl p2), .string name, .int .i64 0, .slice (some ⟨m, 0, none⟩) n n] (w.alloc (.cells vs.toArray 31)) fun e w' =>
  ∃ b, e = .returned (.pointer (some ⟨b, 0, none⟩)) ∧ Below w.heap.size w w' ∧ RepS (fun x => B ≤ x) w' (.node (mk kind (p1, p2) name 0 l).1 (mk kind (p1, p2) name 0 l).2 .no) [.pointer (some ⟨b, 0, none⟩)] := by
 subst hm hn
 have hb : Below w.heap.size w (w.alloc (.cells vs.toArray 31)) := (Below.refl _ _).alloc (Nat.le_refl _) _
 refine (new_at (B := B) (Nat.le_trans hw hb.size) kI kind hkI p1 p2 name 0 (some ⟨w.heap.size, 0, none⟩) vs.length vs.length vs (forest l) rfl (by omega) (by have := reads_lit w vs.toArray 31; simpa using this) (hk.below hb)).mono ?_
 rintro e w' ⟨b, rfl, h, hr⟩
 exact ⟨b, rfl, hb.trans (h.mono hb.size), hr⟩
set_option maxRecDepth 100000 in set_option maxHeartbeats 6400000 in
theorem of_E {g : Nat} {w0 : World} {br c : Nat} {A : Option Addr} {L : List PT} (ht : TkS w0 br A L) (hg : L.length < g) (i : Nat) (hi : i ≤ 60000) (w : World) (h : PInv w0 w br A c L i) :
 Calls Tryz.prog 136 #[.pointer (some ⟨br, 0, none⟩), .func (.func 99) #[] #[]] w (TreeR w.heap.size w0 w br A c L (exprF g L i)) := by
 have hbr0 := h.row.lt
 have hlen := ht.toks.len
 have hw := h.below ((Below.refl _ _).drew)
 have d1 := Expr_any (row_at ht hw) c hi
 rw [show exprP L i = exprF g L i from expr_fuel hg i] at d1
 have m0 : w.cell? ⟨br, 0, none⟩ = some (.slice A L.length c) := h.row.cell 0
 obtain ⟨m1, f1, hlt⟩ := h.at_
 have H := qh (PG.start h)
 have x0 : (0 : Int) ≤ (i : Int) := by omega
 clear hw
 cases hx : exprF g L i with
 | error k9 =>
   rw [hx] at d1
   have D1 := qh d1
   clear d1 hx h ht
   go_enter Tryz.func136, Tryz.ntmps136
   go_wp2
   go_region_law (first
    | (go_simp; go_at_call 99; (with_reducible refine D1.out.mono ?_); rintro e x ⟨rfl, hb⟩; have HX := qh (H.out.below ((Below.refl _ _).drew.trans (hb.mono (Nat.le_refl _)))); clear hb))
   all_goals
    go_wp2
    exact ⟨rfl, rfl, HX.out.2⟩
 | ok r =>
   obtain ⟨y, j⟩ := r
   rw [hx] at d1
   have D1 := qh d1
   clear d1 hx h ht
   go_enter Tryz.func136, Tryz.ntmps136
   go_wp2
   go_region_law (first
    | (go_simp; go_at_call 99; (with_reducible refine D1.out.mono ?_); rintro e x ⟨b, rfl, hr, hb⟩; have HX := qh (H.out.below ((Below.refl _ _).drew.trans (hb.mono (Nat.le_refl _)))); have HR := qh (show RepS (fun y => w.heap.size ≤ y) x _ _ from hr); clear hb hr; obtain ⟨z1, zf1, hzl⟩ := HX.out.1.at_))
   all_goals
    have H2 := qh (HX.out.set_ j)
    have HR2 := qh (HR.out.keep (by rw [World.size_setCell]; exact Nat.le_refl _) (fun y hy _ => Below.heap_setCell _ ⟨br, 1, none⟩ (.int .i64 j) y (show y ≠ br by omega)) (fun y h _ => h))
    go_wp2
    go_ret
    exact ⟨b, rfl, H2.out.1, H2.out.2, HR2.out⟩
set_option maxRecDepth 100000 in set_option maxHeartbeats 6400000 in
theorem of_D {g : Nat} {w0 : World} {br c : Nat} {A : Option Addr} {L : List PT} (ht : TkS w0 br A L) (hg : L.length < g) (i : Nat) (hi : i ≤ 60000) (w : World) (h : PInv w0 w br A c L i) :
 Calls Tryz.prog 136 #[.pointer (some ⟨br, 0, none⟩), .func (.func 139) #[] #[]] w (TreeR w.heap.size w0 w br A c L (designF (exprF g) g L i)) := by
 have hbr0 := h.row.lt
 have hlen := ht.toks.len
 have hw := h.below ((Below.refl _ _).drew)
 have d1 := Design_any (row_at ht hw) c hi
 rw [show designP L (exprP L) i = designF (exprF g) g L i from designE_fuel hg i] at d1
 have m0 : w.cell? ⟨br, 0, none⟩ = some (.slice A L.length c) := h.row.cell 0
 obtain ⟨m1, f1, hlt⟩ := h.at_
 have H := qh (PG.start h)
 have x0 : (0 : Int) ≤ (i : Int) := by omega
 clear hw
 cases hx : designF (exprF g) g L i with
 | error k9 =>
   rw [hx] at d1
   have D1 := qh d1
   clear d1 hx h ht
   go_enter Tryz.func136, Tryz.ntmps136
   go_wp2
   go_region_law (first
    | (go_simp; go_at_call 139; (with_reducible refine D1.out.mono ?_); rintro e x ⟨rfl, hb⟩; have HX := qh (H.out.below ((Below.refl _ _).drew.trans (hb.mono (Nat.le_refl _)))); clear hb))
   all_goals
    go_wp2
    exact ⟨rfl, rfl, HX.out.2⟩
 | ok r =>
   obtain ⟨y, j⟩ := r
   rw [hx] at d1
   have D1 := qh d1
   clear d1 hx h ht
   go_enter Tryz.func136, Tryz.ntmps136
   go_wp2
   go_region_law (first
    | (go_simp; go_at_call 139; (with_reducible refine D1.out.mono ?_); rintro e x ⟨b, rfl, hr, hb⟩; have HX := qh (H.out.below ((Below.refl _ _).drew.trans (hb.mono (Nat.le_refl _)))); have HR := qh (show RepS (fun y => w.heap.size ≤ y) x _ _ from hr); clear hb hr; obtain ⟨z1, zf1, hzl⟩ := HX.out.1.at_))
   all_goals
    have H2 := qh (HX.out.set_ j)
    have HR2 := qh (HR.out.keep (by rw [World.size_setCell]; exact Nat.le_refl _) (fun y hy _ => Below.heap_setCell _ ⟨br, 1, none⟩ (.int .i64 j) y (show y ≠ br by omega)) (fun y h _ => h))
    go_wp2
    go_ret
    exact ⟨b, rfl, H2.out.1, H2.out.2, HR2.out⟩
set_option maxRecDepth 100000 in set_option maxHeartbeats 6400000 in
theorem of_L {g : Nat} {w0 : World} {br c : Nat} {A : Option Addr} {L : List PT} (ht : TkS w0 br A L) (hg : L.length < g) (i : Nat) (hi : i ≤ 60000) (w : World) (h : PInv w0 w br A c L i) :
 Calls Tryz.prog 136 #[.pointer (some ⟨br, 0, none⟩), .func (.func 137) #[] #[]] w (TreeR w.heap.size w0 w br A c L (labelsF g L i)) := by
 have hbr0 := h.row.lt
 have hlen := ht.toks.len
 have hw := h.below ((Below.refl _ _).drew)
 have d1 := Labels_any (row_at ht hw) c hi
 rw [show labelsP L i = labelsF g L i from labels_fuel hg i] at d1
 have m0 : w.cell? ⟨br, 0, none⟩ = some (.slice A L.length c) := h.row.cell 0
 obtain ⟨m1, f1, hlt⟩ := h.at_
 have H := qh (PG.start h)
 have x0 : (0 : Int) ≤ (i : Int) := by omega
 clear hw
 cases hx : labelsF g L i with
 | error k9 =>
   rw [hx] at d1
   have D1 := qh d1
   clear d1 hx h ht
   go_enter Tryz.func136, Tryz.ntmps136
   go_wp2
   go_region_law (first
    | (go_simp; go_at_call 137; (with_reducible refine D1.out.mono ?_); rintro e x ⟨rfl, hb⟩; have HX := qh (H.out.below ((Below.refl _ _).drew.trans (hb.mono (Nat.le_refl _)))); clear hb))
   all_goals
    go_wp2
    exact ⟨rfl, rfl, HX.out.2⟩
 | ok r =>
   obtain ⟨y, j⟩ := r
   rw [hx] at d1
   have D1 := qh d1
   clear d1 hx h ht
   go_enter Tryz.func136, Tryz.ntmps136
   go_wp2
   go_region_law (first
    | (go_simp; go_at_call 137; (with_reducible refine D1.out.mono ?_); rintro e x ⟨b, rfl, hr, hb⟩; have HX := qh (H.out.below ((Below.refl _ _).drew.trans (hb.mono (Nat.le_refl _)))); have HR := qh (show RepS (fun y => w.heap.size ≤ y) x _ _ from hr); clear hb hr; obtain ⟨z1, zf1, hzl⟩ := HX.out.1.at_))
   all_goals
    have H2 := qh (HX.out.set_ j)
    have HR2 := qh (HR.out.keep (by rw [World.size_setCell]; exact Nat.le_refl _) (fun y hy _ => Below.heap_setCell _ ⟨br, 1, none⟩ (.int .i64 j) y (show y ≠ br by omega)) (fun y h _ => h))
    go_wp2
    go_ret
    exact ⟨b, rfl, H2.out.1, H2.out.2, HR2.out⟩
set_option maxRecDepth 100000 in set_option maxHeartbeats 6400000 in
theorem expr_s {g : Nat} {w0 : World} {br c : Nat} {A : Option Addr} {L : List PT} (ht : TkS w0 br A L) (hg : L.length < g) (i : Nat) (hi : i ≤ 60000) (w : World) (h : PInv w0 w br A c L i) :
 Calls Tryz.prog 133 #[.pointer (some ⟨br, 0, none⟩)] w (TreeR w.heap.size w0 w br A c L (exprF g L i)) := by
 have d1 := of_E ht hg i hi w h
 clear h ht
 cases hx : exprF g L i with
 | error k9 =>
   rw [hx] at d1
   have D1 := qh d1
   clear d1 hx
   go_enter Tryz.func133, Tryz.ntmps133
   go_wp2_with fail
   ((with_reducible refine D1.out.mono ?_); rintro e w1 ⟨rfl, hb⟩)
   have HB := qh hb
   clear hb
   go_wp2
   exact ⟨rfl, rfl, HB.out⟩
 | ok r =>
   obtain ⟨y, j⟩ := r
   rw [hx] at d1
   have D1 := qh d1
   clear d1 hx
   go_enter Tryz.func133, Tryz.ntmps133
   go_wp2_with fail
   ((with_reducible refine D1.out.mono ?_); rintro e w1 ⟨b, rfl, hp, hgr, hr⟩)
   have HB := qh (And.intro hp (And.intro hgr hr))
   clear hp hgr hr
   go_wp2
   go_ret
   exact ⟨b, rfl, HB.out.1, HB.out.2.1, HB.out.2.2⟩
def endedF (bd : Par T1) : Par T1 := bindP bd fun b => needF sEnd (retP b)
theorem endedF_then {bd : Par T1} {k : Nat} {p : Nat × Nat} {n : ByteArray} {f : T1 → List T1} {L : List PT} {i : Nat} : bindP bd (fun b => endS k p n (f b)) L i = bindP (endedF bd) (fun b => retP (mk k p n 0 (f b))) L i := by
 unfold endedF bindP
 cases bd L i with
 | error k => rfl
 | ok r =>
   obtain ⟨b, j⟩ := r
   unfold endS needF tokP retP failP
   dsimp only
   split <;> rfl
theorem g2_endedF {bd : Par T1} (h : Good2 bd) : Good2 (endedF bd) := g2_bind h fun b => g2_need (g2_ret _)
set_option maxRecDepth 100000 in set_option maxHeartbeats 6400000 in
theorem ended_any {g : Nat} {w0 : World} {br c : Nat} {A : Option Addr} {L : List PT} (ht : TkS w0 br A L) (hg : L.length < g) {bd : Par T1} (hb2 : Good2 bd) {lo : Nat} (hB : SnOK 97 (fun j => bd L j) lo w0 br A c L) : SnOK 138 (fun j => endedF bd L j) lo w0 br A c L := by
 intro i hlo hi w h
 have hbr0 := h.row.lt
 have hlen := ht.toks.len
 have H := qh (PG.start h)
 have HT := qh ht
 have MB := qh (fun j => g2_max hb2 L j)
 have HB := qh hB
 obtain ⟨res, hs0⟩ : ∃ r, r = endedF bd L i := ⟨_, rfl⟩
 show Calls _ _ _ _ (TreeR _ _ _ _ _ _ _ (endedF bd L i))
 rw [← hs0]
 have HS := qh hs0
 clear h ht hb2 hB hs0
 go_enter Tryz.func138, Tryz.ntmps138
 have d1 : Calls _ _ _ _ (TreeR _ _ _ _ _ _ _ (bd L (i))) := HB.out (i) (by omega) (by omega) _ H.out.1
 cases hx : bd L (i) with
 | error k9 =>
   rw [hx] at d1
   have D1 := qh d1
   have HS := qh (HS.out.trans (bind_err hx))
   clear d1 hx
   go_wp2_with fail
   ((with_reducible refine D1.out.mono ?_); rintro e w1 ⟨rfl, hb⟩)
   have H3 := qh (grown_trans H.out.2 hb)
   clear hb
   go_wp2
   refine ⟨rfl, ?_⟩
   rw [HS.out]
   exact ⟨rfl, H3.out⟩
 | ok r =>
   obtain ⟨b, j1⟩ := r
   rw [hx] at d1
   have D1 := qh d1
   have HS := qh (HS.out.trans (bind_ok hx))
   have hj1 := MB.out (i)
   rw [hx] at hj1
   simp only [posE] at hj1
   clear d1 hx
   go_wp2_with fail
   ((with_reducible refine D1.out.mono ?_); rintro e wx ⟨bb, rfl, hp, hgr, hr⟩)
   have HR8 := qh (hr.more (S' := fun y => w.heap.size ≤ y) fun y hy _ => Nat.le_trans H.out.2.size hy)
   have H := qh (H.out.trans ⟨hp, hgr⟩)
   clear hp hgr hr D1
   cases hT : isT L (j1) sEnd with
   | false =>
     have D1 := qh (need_no HT.out.toks (i := j1) (by omega) sEnd _ H.out.1 hT)
     have HS := qh (HS.out.trans (need_n hT))
     go_wp2_with fail
     ((with_reducible refine D1.out.mono ?_); rintro e w1 ⟨rfl, hb⟩)
     have H3 := qh (grown_trans H.out.2 hb)
     clear hb
     go_wp2
     refine ⟨rfl, ?_⟩
     rw [HS.out]
     exact ⟨rfl, H3.out⟩
   | true =>
     have hjn := isT_lt hT
     have D1 := qh (need_ok HT.out.toks (i := j1) (by omega) sEnd _ H.out.1 hT)
     have HS := qh (HS.out.trans (need_y hT))
     clear hT
     go_wp2_with fail
     ((with_reducible refine (D1.out).mono ?_); rintro e wx ⟨rfl, hb⟩)
     have H := qh (H.out.trans hb)
     have HR8 := qh (repS_grown HR8.out hb.2 hbr0)
     clear hb
     clear D1
     have HS := qh (HS.out.trans ret_)
     go_wp2
     go_ret
     rw [HS.out]
     exact ⟨bb, rfl, H.out.1, H.out.2, HR8.out⟩
set_option maxRecDepth 100000 in set_option maxHeartbeats 6400000 in
theorem whiles_any {g : Nat} {w0 : World} {br c : Nat} {A : Option Addr} {L : List PT} (ht : TkS w0 br A L) (hg : L.length < g) {bd : Par T1} (hb2 : Good2 bd) {lo : Nat} (hB : SnOK 97 (fun j => bd L j) lo w0 br A c L) (i : Nat) (hlo : lo ≤ i) (hi : i ≤ L.length) (p1 p2 : Nat) (w : World) (h : PInv w0 w br A c L i) :
 Calls Tryz.prog 110 #[.pointer (some ⟨br, 0, none⟩), .complex .f64 (fl p1) (fl p2)] w (TreeR w.heap.size w0 w br A c L (whileS g bd (p1, p2) L i)) := by
 have MN := qh (fun j => g2_max (g2_endedF hb2) L j)
 have hbr0 := h.row.lt
 have hlen := ht.toks.len
 have H0 := qh h
 have H := qh (PG.start h)
 have HT := qh ht
 have ME := qh (fun j => g2_max (g2_expr (g := g)) L j)
 have MD := qh (fun j => g2_max (g2_design (g := g)) L j)
 have ML := qh (fun j => g2_max (g2_labels (g := g)) L j)
 have HE := qh (fun j hj w h => expr_s (c := c) ht hg j hj w h)
 have HD := qh (fun j hj w h => of_D (c := c) ht hg j hj w h)
 have HL := qh (fun j hj w h => of_L (c := c) ht hg j hj w h)
 have MB := qh (fun j => g2_max hb2 L j)
 have HB := qh hB
 have HN := qh (ended_any (c := c) ht hg hb2 hB)
 obtain ⟨res, hs0⟩ : ∃ r, r = whileS g bd (p1, p2) L i := ⟨_, rfl⟩
 rw [← hs0]
 have HS := qh hs0
 clear h ht hb2 hB hs0
 go_enter Tryz.func110, Tryz.ntmps110
 have d1 : Calls _ _ _ _ (TreeR _ _ _ _ _ _ _ (exprF g L (i))) := HE.out (i) (by omega) _ H.out.1
 cases hx : exprF g L (i) with
 | error k9 =>
   rw [hx] at d1
   have D1 := qh d1
   have HS := qh (HS.out.trans (bind_err hx))
   clear d1 hx
   go_wp2_with fail
   ((with_reducible refine D1.out.mono ?_); rintro e w1 ⟨rfl, hb⟩)
   have H3 := qh (grown_trans H.out.2 hb)
   clear hb
   go_wp2
   refine ⟨rfl, ?_⟩
   rw [HS.out]
   exact ⟨rfl, H3.out⟩
 | ok r =>
   obtain ⟨x, j1⟩ := r
   rw [hx] at d1
   have D1 := qh d1
   have HS := qh (HS.out.trans (bind_ok hx))
   have hj1 := ME.out (i)
   rw [hx] at hj1
   simp only [posE] at hj1
   clear d1 hx
   go_wp2_with fail
   ((with_reducible refine D1.out.mono ?_); rintro e wx ⟨bx, rfl, hp, hgr, hr⟩)
   have HX := qh (hr.more (S' := fun y => w.heap.size ≤ y) fun y hy _ => Nat.le_trans H.out.2.size hy)
   have H := qh (H.out.trans ⟨hp, hgr⟩)
   clear hp hgr hr D1
   cases hT : isT L (j1) sDo with
   | false =>
     have D1 := qh (need_no HT.out.toks (i := j1) (by omega) sDo _ H.out.1 hT)
     have HS := qh (HS.out.trans (need_n hT))
     go_wp2_with fail
     ((with_reducible refine D1.out.mono ?_); rintro e w1 ⟨rfl, hb⟩)
     have H3 := qh (grown_trans H.out.2 hb)
     clear hb
     go_wp2
     refine ⟨rfl, ?_⟩
     rw [HS.out]
     exact ⟨rfl, H3.out⟩
   | true =>
     have hjn := isT_lt hT
     have D1 := qh (need_ok HT.out.toks (i := j1) (by omega) sDo _ H.out.1 hT)
     have HS := qh (HS.out.trans (need_y hT))
     clear hT
     go_wp2_with fail
     ((with_reducible refine (D1.out).mono ?_); rintro e wx ⟨rfl, hb⟩)
     have H := qh (H.out.trans hb)
     have HX := qh (repS_grown HX.out hb.2 hbr0)
     clear hb
     clear D1
     have HS := qh (HS.out.trans endedF_then)
     have d1 : Calls _ _ _ _ (TreeR _ _ _ _ _ _ _ (endedF bd L (j1 + 1))) := HN.out (j1 + 1) (by omega) (by omega) _ H.out.1
     cases hx : endedF bd L (j1 + 1) with
     | error k9 =>
       rw [hx] at d1
       have D1 := qh d1
       have HS := qh (HS.out.trans (bind_err hx))
       clear d1 hx
       go_wp2_with fail
       ((with_reducible refine D1.out.mono ?_); rintro e w1 ⟨rfl, hb⟩)
       have H3 := qh (grown_trans H.out.2 hb)
       clear hb
       go_wp2
       refine ⟨rfl, ?_⟩
       rw [HS.out]
       exact ⟨rfl, H3.out⟩
     | ok r =>
       obtain ⟨y, j2⟩ := r
       rw [hx] at d1
       have D1 := qh d1
       have HS := qh (HS.out.trans (bind_ok hx))
       have hj2 := MN.out (j1 + 1)
       rw [hx] at hj2
       simp only [posE] at hj2
       clear d1 hx
       go_wp2_with fail
       ((with_reducible refine D1.out.mono ?_); rintro e wx ⟨by_, rfl, hp, hgr, hr⟩)
       have HY := qh (hr.more (S' := fun y => w.heap.size ≤ y) fun y hy _ => Nat.le_trans H.out.2.size hy)
       have H := qh (H.out.trans ⟨hp, hgr⟩)
       have HX := qh (repS_grown HX.out hgr hbr0)
       clear hp hgr hr D1
       have HS := qh (HS.out.trans ret_)
       have NW := qh (new_lit (B := w.heap.size) (w := wx) H.out.2.size 64 64 rfl p1 p2 sNil [.pointer (some ⟨bx, 0, none⟩), .pointer (some ⟨by_, 0, none⟩)] [x, y] wx.heap.size rfl 2 rfl (by decide) (repN_of (repS_cons HX.out HY.out)))
       go_wp2_with fail
       ((with_reducible refine NW.out.mono ?_); rintro e w8 ⟨b8, rfl, hb, hr⟩)
       have H := qh (H.out.below hb)
       have HR8 := qh hr
       clear hb hr NW
       go_wp2
       go_ret
       rw [HS.out]
       exact ⟨b8, rfl, H.out.1, H.out.2, HR8.out⟩
set_option maxRecDepth 100000 in set_option maxHeartbeats 6400000 in
theorem withs_any {g : Nat} {w0 : World} {br c : Nat} {A : Option Addr} {L : List PT} (ht : TkS w0 br A L) (hg : L.length < g) {bd : Par T1} (hb2 : Good2 bd) {lo : Nat} (hB : SnOK 97 (fun j => bd L j) lo w0 br A c L) (i : Nat) (hlo : lo ≤ i) (hi : i ≤ L.length) (p1 p2 : Nat) (w : World) (h : PInv w0 w br A c L i) :
 Calls Tryz.prog 115 #[.pointer (some ⟨br, 0, none⟩), .complex .f64 (fl p1) (fl p2)] w (TreeR w.heap.size w0 w br A c L (withS g bd (p1, p2) L i)) := by
 have MN := qh (fun j => g2_max (g2_endedF hb2) L j)
 have hbr0 := h.row.lt
 have hlen := ht.toks.len
 have H0 := qh h
 have H := qh (PG.start h)
 have HT := qh ht
 have ME := qh (fun j => g2_max (g2_expr (g := g)) L j)
 have MD := qh (fun j => g2_max (g2_design (g := g)) L j)
 have ML := qh (fun j => g2_max (g2_labels (g := g)) L j)
 have HE := qh (fun j hj w h => expr_s (c := c) ht hg j hj w h)
 have HD := qh (fun j hj w h => of_D (c := c) ht hg j hj w h)
 have HL := qh (fun j hj w h => of_L (c := c) ht hg j hj w h)
 have MB := qh (fun j => g2_max hb2 L j)
 have HB := qh hB
 have HN := qh (ended_any (c := c) ht hg hb2 hB)
 obtain ⟨res, hs0⟩ : ∃ r, r = withS g bd (p1, p2) L i := ⟨_, rfl⟩
 rw [← hs0]
 have HS := qh hs0
 clear h ht hb2 hB hs0
 go_enter Tryz.func115, Tryz.ntmps115
 have d1 : Calls _ _ _ _ (TreeR _ _ _ _ _ _ _ (designF (exprF g) g L (i))) := HD.out (i) (by omega) _ H.out.1
 cases hx : designF (exprF g) g L (i) with
 | error k9 =>
   rw [hx] at d1
   have D1 := qh d1
   have HS := qh (HS.out.trans (bind_err hx))
   clear d1 hx
   go_wp2_with fail
   ((with_reducible refine D1.out.mono ?_); rintro e w1 ⟨rfl, hb⟩)
   have H3 := qh (grown_trans H.out.2 hb)
   clear hb
   go_wp2
   refine ⟨rfl, ?_⟩
   rw [HS.out]
   exact ⟨rfl, H3.out⟩
 | ok r =>
   obtain ⟨x, j1⟩ := r
   rw [hx] at d1
   have D1 := qh d1
   have HS := qh (HS.out.trans (bind_ok hx))
   have hj1 := MD.out (i)
   rw [hx] at hj1
   simp only [posE] at hj1
   clear d1 hx
   go_wp2_with fail
   ((with_reducible refine D1.out.mono ?_); rintro e wx ⟨bx, rfl, hp, hgr, hr⟩)
   have HX := qh (hr.more (S' := fun y => w.heap.size ≤ y) fun y hy _ => Nat.le_trans H.out.2.size hy)
   have H := qh (H.out.trans ⟨hp, hgr⟩)
   clear hp hgr hr D1
   cases hT : isT L (j1) sDo with
   | false =>
     have D1 := qh (need_no HT.out.toks (i := j1) (by omega) sDo _ H.out.1 hT)
     have HS := qh (HS.out.trans (need_n hT))
     go_wp2_with fail
     ((with_reducible refine D1.out.mono ?_); rintro e w1 ⟨rfl, hb⟩)
     have H3 := qh (grown_trans H.out.2 hb)
     clear hb
     go_wp2
     refine ⟨rfl, ?_⟩
     rw [HS.out]
     exact ⟨rfl, H3.out⟩
   | true =>
     have hjn := isT_lt hT
     have D1 := qh (need_ok HT.out.toks (i := j1) (by omega) sDo _ H.out.1 hT)
     have HS := qh (HS.out.trans (need_y hT))
     clear hT
     go_wp2_with fail
     ((with_reducible refine (D1.out).mono ?_); rintro e wx ⟨rfl, hb⟩)
     have H := qh (H.out.trans hb)
     have HX := qh (repS_grown HX.out hb.2 hbr0)
     clear hb
     clear D1
     have HS := qh (HS.out.trans endedF_then)
     have d1 : Calls _ _ _ _ (TreeR _ _ _ _ _ _ _ (endedF bd L (j1 + 1))) := HN.out (j1 + 1) (by omega) (by omega) _ H.out.1
     cases hx : endedF bd L (j1 + 1) with
     | error k9 =>
       rw [hx] at d1
       have D1 := qh d1
       have HS := qh (HS.out.trans (bind_err hx))
       clear d1 hx
       go_wp2_with fail
       ((with_reducible refine D1.out.mono ?_); rintro e w1 ⟨rfl, hb⟩)
       have H3 := qh (grown_trans H.out.2 hb)
       clear hb
       go_wp2
       refine ⟨rfl, ?_⟩
       rw [HS.out]
       exact ⟨rfl, H3.out⟩
     | ok r =>
       obtain ⟨y, j2⟩ := r
       rw [hx] at d1
       have D1 := qh d1
       have HS := qh (HS.out.trans (bind_ok hx))
       have hj2 := MN.out (j1 + 1)
       rw [hx] at hj2
       simp only [posE] at hj2
       clear d1 hx
       go_wp2_with fail
       ((with_reducible refine D1.out.mono ?_); rintro e wx ⟨by_, rfl, hp, hgr, hr⟩)
       have HY := qh (hr.more (S' := fun y => w.heap.size ≤ y) fun y hy _ => Nat.le_trans H.out.2.size hy)
       have H := qh (H.out.trans ⟨hp, hgr⟩)
       have HX := qh (repS_grown HX.out hgr hbr0)
       clear hp hgr hr D1
       have HS := qh (HS.out.trans ret_)
       have NW := qh (new_lit (B := w.heap.size) (w := wx) H.out.2.size 69 69 rfl p1 p2 sNil [.pointer (some ⟨bx, 0, none⟩), .pointer (some ⟨by_, 0, none⟩)] [x, y] wx.heap.size rfl 2 rfl (by decide) (repN_of (repS_cons HX.out HY.out)))
       go_wp2_with fail
       ((with_reducible refine NW.out.mono ?_); rintro e w8 ⟨b8, rfl, hb, hr⟩)
       have H := qh (H.out.below hb)
       have HR8 := qh hr
       clear hb hr NW
       go_wp2
       go_ret
       rw [HS.out]
       exact ⟨b8, rfl, H.out.1, H.out.2, HR8.out⟩
set_option maxRecDepth 100000 in set_option maxHeartbeats 6400000 in
theorem loops_any {g : Nat} {w0 : World} {br c : Nat} {A : Option Addr} {L : List PT} (ht : TkS w0 br A L) (hg : L.length < g) {bd : Par T1} (hb2 : Good2 bd) {lo : Nat} (hB : SnOK 97 (fun j => bd L j) lo w0 br A c L) (i : Nat) (hlo : lo ≤ i) (hi : i ≤ L.length) (p1 p2 : Nat) (w : World) (h : PInv w0 w br A c L i) :
 Calls Tryz.prog 112 #[.pointer (some ⟨br, 0, none⟩), .complex .f64 (fl p1) (fl p2)] w (TreeR w.heap.size w0 w br A c L (loopS bd (p1, p2) L i)) := by
 have MN := qh (fun j => g2_max (g2_endedF hb2) L j)
 have hbr0 := h.row.lt
 have hlen := ht.toks.len
 have H0 := qh h
 have H := qh (PG.start h)
 have HT := qh ht
 have ME := qh (fun j => g2_max (g2_expr (g := g)) L j)
 have MD := qh (fun j => g2_max (g2_design (g := g)) L j)
 have ML := qh (fun j => g2_max (g2_labels (g := g)) L j)
 have HE := qh (fun j hj w h => expr_s (c := c) ht hg j hj w h)
 have HD := qh (fun j hj w h => of_D (c := c) ht hg j hj w h)
 have HL := qh (fun j hj w h => of_L (c := c) ht hg j hj w h)
 have MB := qh (fun j => g2_max hb2 L j)
 have HB := qh hB
 have HN := qh (ended_any (c := c) ht hg hb2 hB)
 obtain ⟨res, hs0⟩ : ∃ r, r = loopS bd (p1, p2) L i := ⟨_, rfl⟩
 rw [← hs0]
 have HS := qh hs0
 clear h ht hb2 hB hs0
 go_enter Tryz.func112, Tryz.ntmps112
 have HS := qh (HS.out.trans endedF_then)
 have d1 : Calls _ _ _ _ (TreeR _ _ _ _ _ _ _ (endedF bd L (i))) := HN.out (i) (by omega) (by omega) _ H.out.1
 cases hx : endedF bd L (i) with
 | error k9 =>
   rw [hx] at d1
   have D1 := qh d1
   have HS := qh (HS.out.trans (bind_err hx))
   clear d1 hx
   go_wp2_with fail
   ((with_reducible refine D1.out.mono ?_); rintro e w1 ⟨rfl, hb⟩)
   have H3 := qh (grown_trans H.out.2 hb)
   clear hb
   go_wp2
   refine ⟨rfl, ?_⟩
   rw [HS.out]
   exact ⟨rfl, H3.out⟩
 | ok r =>
   obtain ⟨x, j1⟩ := r
   rw [hx] at d1
   have D1 := qh d1
   have HS := qh (HS.out.trans (bind_ok hx))
   have hj1 := MN.out (i)
   rw [hx] at hj1
   simp only [posE] at hj1
   clear d1 hx
   go_wp2_with fail
   ((with_reducible refine D1.out.mono ?_); rintro e wx ⟨bx, rfl, hp, hgr, hr⟩)
   have HX := qh (hr.more (S' := fun y => w.heap.size ≤ y) fun y hy _ => Nat.le_trans H.out.2.size hy)
   have H := qh (H.out.trans ⟨hp, hgr⟩)
   clear hp hgr hr D1
   have HS := qh (HS.out.trans ret_)
   have NW := qh (new_lit (B := w.heap.size) (w := wx) H.out.2.size 66 66 rfl p1 p2 sNil [.pointer (some ⟨bx, 0, none⟩)] [x] wx.heap.size rfl 1 rfl (by decide) (repN_of HX.out))
   go_wp2_with fail
   ((with_reducible refine NW.out.mono ?_); rintro e w8 ⟨b8, rfl, hb, hr⟩)
   have H := qh (H.out.below hb)
   have HR8 := qh hr
   clear hb hr NW
   go_wp2
   go_ret
   rw [HS.out]
   exact ⟨b8, rfl, H.out.1, H.out.2, HR8.out⟩
set_option maxRecDepth 100000 in set_option maxHeartbeats 6400000 in
theorem repeats_any {g : Nat} {w0 : World} {br c : Nat} {A : Option Addr} {L : List PT} (ht : TkS w0 br A L) (hg : L.length < g) {bd : Par T1} (hb2 : Good2 bd) {lo : Nat} (hB : SnOK 97 (fun j => bd L j) lo w0 br A c L) (i : Nat) (hlo : lo ≤ i) (hi : i ≤ L.length) (p1 p2 : Nat) (w : World) (h : PInv w0 w br A c L i) :
 Calls Tryz.prog 111 #[.pointer (some ⟨br, 0, none⟩), .complex .f64 (fl p1) (fl p2)] w (TreeR w.heap.size w0 w br A c L (repS g bd (p1, p2) L i)) := by
 have MN := qh (fun j => g2_max (g2_endedF hb2) L j)
 have hbr0 := h.row.lt
 have hlen := ht.toks.len
 have H0 := qh h
 have H := qh (PG.start h)
 have HT := qh ht
 have ME := qh (fun j => g2_max (g2_expr (g := g)) L j)
 have MD := qh (fun j => g2_max (g2_design (g := g)) L j)
 have ML := qh (fun j => g2_max (g2_labels (g := g)) L j)
 have HE := qh (fun j hj w h => expr_s (c := c) ht hg j hj w h)
 have HD := qh (fun j hj w h => of_D (c := c) ht hg j hj w h)
 have HL := qh (fun j hj w h => of_L (c := c) ht hg j hj w h)
 have MB := qh (fun j => g2_max hb2 L j)
 have HB := qh hB
 have HN := qh (ended_any (c := c) ht hg hb2 hB)
 obtain ⟨res, hs0⟩ : ∃ r, r = repS g bd (p1, p2) L i := ⟨_, rfl⟩
 rw [← hs0]
 have HS := qh hs0
 clear h ht hb2 hB hs0
 go_enter Tryz.func111, Tryz.ntmps111
 have d1 : Calls _ _ _ _ (TreeR _ _ _ _ _ _ _ (bd L (i))) := HB.out (i) (by omega) (by omega) _ H.out.1
 cases hx : bd L (i) with
 | error k9 =>
   rw [hx] at d1
   have D1 := qh d1
   have HS := qh (HS.out.trans (bind_err hx))
   clear d1 hx
   go_wp2_with fail
   ((with_reducible refine D1.out.mono ?_); rintro e w1 ⟨rfl, hb⟩)
   have H3 := qh (grown_trans H.out.2 hb)
   clear hb
   go_wp2
   refine ⟨rfl, ?_⟩
   rw [HS.out]
   exact ⟨rfl, H3.out⟩
 | ok r =>
   obtain ⟨x, j1⟩ := r
   rw [hx] at d1
   have D1 := qh d1
   have HS := qh (HS.out.trans (bind_ok hx))
   have hj1 := MB.out (i)
   rw [hx] at hj1
   simp only [posE] at hj1
   clear d1 hx
   go_wp2_with fail
   ((with_reducible refine D1.out.mono ?_); rintro e wx ⟨bx, rfl, hp, hgr, hr⟩)
   have HX := qh (hr.more (S' := fun y => w.heap.size ≤ y) fun y hy _ => Nat.le_trans H.out.2.size hy)
   have H := qh (H.out.trans ⟨hp, hgr⟩)
   clear hp hgr hr D1
   cases hT : isT L (j1) sUntil with
   | false =>
     have D1 := qh (need_no HT.out.toks (i := j1) (by omega) sUntil _ H.out.1 hT)
     have HS := qh (HS.out.trans (need_n hT))
     go_wp2_with fail
     ((with_reducible refine D1.out.mono ?_); rintro e w1 ⟨rfl, hb⟩)
     have H3 := qh (grown_trans H.out.2 hb)
     clear hb
     go_wp2
     refine ⟨rfl, ?_⟩
     rw [HS.out]
     exact ⟨rfl, H3.out⟩
   | true =>
     have hjn := isT_lt hT
     have D1 := qh (need_ok HT.out.toks (i := j1) (by omega) sUntil _ H.out.1 hT)
     have HS := qh (HS.out.trans (need_y hT))
     clear hT
     go_wp2_with fail
     ((with_reducible refine (D1.out).mono ?_); rintro e wx ⟨rfl, hb⟩)
     have H := qh (H.out.trans hb)
     have HX := qh (repS_grown HX.out hb.2 hbr0)
     clear hb
     clear D1
     have d1 : Calls _ _ _ _ (TreeR _ _ _ _ _ _ _ (exprF g L (j1 + 1))) := HE.out (j1 + 1) (by omega) _ H.out.1
     cases hx : exprF g L (j1 + 1) with
     | error k9 =>
       rw [hx] at d1
       have D1 := qh d1
       have HS := qh (HS.out.trans (bind_err hx))
       clear d1 hx
       go_wp2_with fail
       ((with_reducible refine D1.out.mono ?_); rintro e w1 ⟨rfl, hb⟩)
       have H3 := qh (grown_trans H.out.2 hb)
       clear hb
       go_wp2
       refine ⟨rfl, ?_⟩
       rw [HS.out]
       exact ⟨rfl, H3.out⟩
     | ok r =>
       obtain ⟨y, j2⟩ := r
       rw [hx] at d1
       have D1 := qh d1
       have HS := qh (HS.out.trans (bind_ok hx))
       have hj2 := ME.out (j1 + 1)
       rw [hx] at hj2
       simp only [posE] at hj2
       clear d1 hx
       go_wp2_with fail
       ((with_reducible refine D1.out.mono ?_); rintro e wx ⟨by_, rfl, hp, hgr, hr⟩)
       have HY := qh (hr.more (S' := fun y => w.heap.size ≤ y) fun y hy _ => Nat.le_trans H.out.2.size hy)
       have H := qh (H.out.trans ⟨hp, hgr⟩)
       have HX := qh (repS_grown HX.out hgr hbr0)
       clear hp hgr hr D1
       have HS := qh (HS.out.trans ret_)
       have NW := qh (new_lit (B := w.heap.size) (w := wx) H.out.2.size 65 65 rfl p1 p2 sNil [.pointer (some ⟨bx, 0, none⟩), .pointer (some ⟨by_, 0, none⟩)] [x, y] wx.heap.size rfl 2 rfl (by decide) (repN_of (repS_cons HX.out HY.out)))
       go_wp2_with fail
       ((with_reducible refine NW.out.mono ?_); rintro e w8 ⟨b8, rfl, hb, hr⟩)
       have H := qh (H.out.below hb)
       have HR8 := qh hr
       clear hb hr NW
       go_wp2
       go_ret
       rw [HS.out]
       exact ⟨b8, rfl, H.out.1, H.out.2, HR8.out⟩
set_option maxRecDepth 100000 in set_option maxHeartbeats 6400000 in
theorem exits_any {g : Nat} {w0 : World} {br c : Nat} {A : Option Addr} {L : List PT} (ht : TkS w0 br A L) (hg : L.length < g) {bd : Par T1} {lo : Nat} (i : Nat) (hlo : lo ≤ i) (hi : i ≤ L.length) (p1 p2 : Nat) (w : World) (h : PInv w0 w br A c L i) :
 Calls Tryz.prog 113 #[.pointer (some ⟨br, 0, none⟩), .complex .f64 (fl p1) (fl p2)] w (TreeR w.heap.size w0 w br A c L (exitS (p1, p2) L i)) := by
 have hbr0 := h.row.lt
 have hlen := ht.toks.len
 have H0 := qh h
 have H := qh (PG.start h)
 have HT := qh ht
 have ME := qh (fun j => g2_max (g2_expr (g := g)) L j)
 have MD := qh (fun j => g2_max (g2_design (g := g)) L j)
 have ML := qh (fun j => g2_max (g2_labels (g := g)) L j)
 have HE := qh (fun j hj w h => expr_s (c := c) ht hg j hj w h)
 have HD := qh (fun j hj w h => of_D (c := c) ht hg j hj w h)
 have HL := qh (fun j hj w h => of_L (c := c) ht hg j hj w h)
 obtain ⟨res, hs0⟩ : ∃ r, r = exitS (p1, p2) L i := ⟨_, rfl⟩
 rw [← hs0]
 have HS := qh hs0
 clear h ht hs0
 go_enter Tryz.func113, Tryz.ntmps113
 have HS := qh (HS.out.trans ret_)
 have NW := qh (new_0 (B0 := w.heap.size) (w := w) (Nat.le_refl _) 67 67 rfl p1 p2 sNil 0)
 go_wp2_with fail
 ((with_reducible refine NW.out.mono ?_); rintro e w8 ⟨b8, sv, xs, rfl, hb, hk⟩)
 have H := qh (H.out.below hb)
 have HR8 := qh (hk.done (Nat.le_refl _))
 clear hb hk NW
 go_wp2
 go_ret
 rw [HS.out]
 exact ⟨b8, rfl, H.out.1, H.out.2, HR8.out⟩
end Go.Proofs.YtkemhmfdooghkaaGreatDoor.St
end
