import Derived.Test.YtkemhmfdooghkaaGreatDoorX16
import Derived.MapKept
import Derived.Deep.DeepCutAuto
set_option linter.unusedSimpArgs false
set_option linter.unusedVariables false
set_option maxRecDepth 100000
set_option maxHeartbeats 6400000
namespace Go.Proofs.YtkemhmfdooghkaaGreatDoor
namespace Ex
open Go.RowKit
open Tr (Nd Fo RepS RepN Rep)
open Lx (Tk noTk Blk run_store_complexL TokAt)
open Fl
open St (Good2 g2_max)
attribute [local go_sem] run_store_complexL run_field1 run_field3
attribute [local go_sem ↓] Go.wp_at_zero Go.wp_at_succ
def esF : Nat → List (Value × Value) → List MapEntry
 | _, [] => []
 | i, (k, v) :: r => { key := k, val := v, born := i } :: esF (i + 1) r
def mapO (l : List (Value × Value)) : Obj := .map (esF 0 l).toArray l.length
theorem esF_snoc (l : List (Value × Value)) (k v : Value) (i : Nat) : esF i (l ++ [(k, v)]) = esF i l ++ [{ key := k, val := v, born := i + l.length }] := by
 induction l generalizing i with
 | nil => rfl
 | cons a l ih => obtain ⟨a1, a2⟩ := a; simp only [List.cons_append, esF, ih, List.length_cons]; rw [show i + 1 + l.length = i + (l.length + 1) from by omega]
section
variable {P : Program} {T K E : TypeId} {d : TypeDesc} (hT : P.underlying T = some (.map K E)) (hK : P.underlying K = some d)
include hT hK
theorem run_ins (l : List (Value × Value)) (k v : Value) (hk : MapKept.IsKey d k) (hf : Instr.findNow d k (esF 0 l) 0 = some none) (W : World) (m : Nat) (hm : W.heap.size = m) :
 (Instr.mapUpdate T (.map (some m)) k v).run P (W.alloc (mapO l)) = .ok () (W.alloc (mapO (l ++ [(k, v)]))) := by
 subst hm
 have hb : (W.alloc (mapO l)).heap[W.heap.size]? = some (.map (esF 0 l).toArray l.length) := heap_alloc_new W _
 have hc : ∀ e, (Instr.checkKey e 10000 K k).run P (W.alloc (mapO l)) = .ok () (W.alloc (mapO l)) := fun e => MapKept.run_checkKey hK hk e 9999
 have e1 : (mapO (l ++ [(k, v)])) = .map (esF 0 l ++ [({ key := k, val := v, born := l.length } : MapEntry)]).toArray (l.length + 1) := by
  unfold mapO
  rw [esF_snoc]
  simp
 rw [e1]
 simp [Instr.mapUpdate, run_underlying hT, MapKept.run_getObj_map hb, hc, MapKept.run_findKey (l := esF 0 l) hK hf, MapKept.run_setObj_map _ hb, Result.andThen]
 unfold World.alloc
 simp [Array.setIfInBounds, Array.set_push]
theorem run_look (l : List (Value × Value)) (k : Value) (hk : MapKept.IsKey d k) {j : Nat} {v : Value} (hf : Instr.findNow d k (esF 0 l) 0 = some (some (j, v))) (ok : Bool) (w : World) (m : Nat) (hm : w.heap[m]? = some (mapO l)) :
 (Instr.lookup T (.map (some m)) k ok).run P w = .ok (if ok then .tuple #[v, .bool true] else v) w := by
 have hb : w.heap[m]? = some (.map (esF 0 l).toArray l.length) := hm
 have hc : ∀ e, (Instr.checkKey e 10000 K k).run P w = .ok () w := fun e => MapKept.run_checkKey hK hk e 9999
 simp [Instr.lookup, run_underlying hT, MapKept.run_getObj_map hb, hc, MapKept.run_findKey (l := esF 0 l) hK hf, Result.andThen]
theorem run_look_no (l : List (Value × Value)) (k : Value) (hk : MapKept.IsKey d k) {z : Value} (hf : Instr.findNow d k (esF 0 l) 0 = some none) (ok : Bool) (w : World) (hz : (zeroValue E).run P w = .ok z w) (m : Nat) (hm : w.heap[m]? = some (mapO l)) :
 (Instr.lookup T (.map (some m)) k ok).run P w = .ok (if ok then .tuple #[z, .bool false] else z) w := by
 have hb : w.heap[m]? = some (.map (esF 0 l).toArray l.length) := hm
 have hc : ∀ e, (Instr.checkKey e 10000 K k).run P w = .ok () w := fun e => MapKept.run_checkKey hK hk e 9999
 simp [Instr.lookup, run_underlying hT, MapKept.run_getObj_map hb, hc, MapKept.run_findKey (l := esF 0 l) hK hf, hz, Result.andThen]
end
def trues (l : List ByteArray) : List (Value × Value) := l.map fun s => (.string s, .bool true)
theorem find_trues (t : ByteArray) : ∀ (l : List ByteArray) (i b : Nat), (l.any (fun s => decide (s = t)) = true → ∃ j, Instr.findNow .string (.string t) (esF b (trues l)) i = some (some (j, .bool true))) ∧ (l.any (fun s => decide (s = t)) = false → Instr.findNow .string (.string t) (esF b (trues l)) i = some none)
 | [], i, b => ⟨(fun h => by cases h), fun _ => rfl⟩
 | s :: l, i, b => by
   have ih := find_trues t l (i + 1) (b + 1)
   have e : Instr.findNow .string (.string t) (esF b (trues (s :: l))) i = if (t == s) = true then some (some (i, .bool true)) else Instr.findNow .string (.string t) (esF (b + 1) (trues l)) (i + 1) := by
    show (match Instr.sameNow .string (.string t) (.string s) with | some true => _ | some false => _ | none => _) = _
    simp only [Instr.sameNow]
    all_goals (cases h : t == s <;> rfl)
   have hb : (t == s) = decide (s = t) := by
    rw [Bool.eq_iff_iff, decide_eq_true_eq]
    constructor
    ·intro h; exact ((MapKept.bytes_beq _ _).1 h).symm
    ·intro h; exact (MapKept.bytes_beq _ _).2 h.symm
   rw [e, hb]
   simp only [List.any_cons]
   cases h : decide (s = t)
   ·simp only [Bool.false_or, Bool.false_eq_true, if_false]
    exact ih
   ·simp
structure Lv (W : World) (bl bs m0 m1 m2 b2 b3 br : Nat) : Prop where
 lev : Blk W bl 155 #[.slice (some ⟨bs, 0, none⟩) 3 3]
 row : Blk W bs 154 #[.map (some m0), .map (some m1), .map (some m2)]
 e0 : W.heap[m0]? = some (mapO (trues (ops 0)))
 e1 : W.heap[m1]? = some (mapO (trues (ops 1)))
 e2 : W.heap[m2]? = some (mapO (trues (ops 2)))
 rb : Blk W b2 143 #[.pointer (some ⟨br, 0, none⟩)]
 fb : Blk W b3 156 #[.func (.func 141) #[] #[.pointer (some ⟨bl, 0, none⟩), .pointer (some ⟨b2, 0, none⟩), .pointer (some ⟨b3, 0, none⟩)]]
 ne : br < bl ∧ br < bs ∧ br < m0 ∧ br < m1 ∧ br < m2 ∧ br < b2 ∧ br < b3
theorem obj_lt {W : World} {m : Nat} {o : Obj} (h : W.heap[m]? = some o) : m < W.heap.size := (Array.getElem?_eq_some_iff.1 h).1
theorem Lv.grown {W W' : World} {bl bs m0 m1 m2 b2 b3 br : Nat} (h : Lv W bl bs m0 m1 m2 b2 b3 br) (hg : W.grownBy W' (some br)) : Lv W' bl bs m0 m1 m2 b2 b3 br := by
 obtain ⟨n1, n2, n3, n4, n5, n6, n7⟩ := h.ne
 have hk : ∀ {x : Nat} {o : Obj}, W.heap[x]? = some o → br < x → W'.heap[x]? = some o := fun {x o} hx hn => (hg.block x (obj_lt hx) (fun e => by injection e with e; omega)).trans hx
 exact ⟨hk h.lev n1, hk h.row n2, hk h.e0 n3, hk h.e1 n4, hk h.e2 n5, hk h.rb n6, hk h.fb n7, h.ne⟩
theorem Lv.below {W W' : World} {bl bs m0 m1 m2 b2 b3 br : Nat} (h : Lv W bl bs m0 m1 m2 b2 b3 br) (hb : Below W.heap.size W W') : Lv W' bl bs m0 m1 m2 b2 b3 br := h.grown (grown_of_below hb _)
theorem Lv.facts {W : World} {bl bs m0 m1 m2 b2 b3 br : Nat} (h : Lv W bl bs m0 m1 m2 b2 b3 br) :
 W.cell? ⟨bl, 0, none⟩ = some (.slice (some ⟨bs, 0, none⟩) 3 3) ∧ W.cell? ⟨bs, 0, none⟩ = some (.map (some m0)) ∧ W.cell? ⟨bs, 1, none⟩ = some (.map (some m1)) ∧ W.cell? ⟨bs, 2, none⟩ = some (.map (some m2)) ∧ W.cell? ⟨b2, 0, none⟩ = some (.pointer (some ⟨br, 0, none⟩)) ∧
 W.cell? ⟨b3, 0, none⟩ = some (.func (.func 141) #[] #[.pointer (some ⟨bl, 0, none⟩), .pointer (some ⟨b2, 0, none⟩), .pointer (some ⟨b3, 0, none⟩)]) :=
 ⟨h.lev.cell 0, h.row.cell 0, h.row.cell 1, h.row.cell 2, h.rb.cell 0, h.fb.cell 0⟩
theorem Lv.lts {W : World} {bl bs m0 m1 m2 b2 b3 br : Nat} (h : Lv W bl bs m0 m1 m2 b2 b3 br) : bl < W.heap.size ∧ bs < W.heap.size ∧ b2 < W.heap.size ∧ b3 < W.heap.size := ⟨h.lev.lt, h.row.lt, h.rb.lt, h.fb.lt⟩
theorem look_op {W : World} {k m : Nat} (h : W.heap[m]? = some (mapO (trues (ops k)))) (t : ByteArray) :
 (Instr.lookup 154 (.map (some m)) (.string t) false).run Tryz.prog W = .ok (.bool ((ops k).any fun s => decide (s = t))) W := by
 obtain ⟨h1, h2⟩ := find_trues t (ops k) 0 0
 cases hb : (ops k).any fun s => decide (s = t)
 ·exact run_look_no Tryz.underlying154 Tryz.underlying9 _ _ (by simp [MapKept.IsKey]) (h2 hb) false W (by kernel_rfl) m h
 ·obtain ⟨j, hj⟩ := h1 hb
  exact run_look Tryz.underlying154 Tryz.underlying9 _ _ (by simp [MapKept.IsKey]) hj false W m h
theorem Lv.op {W : World} {bl bs m0 m1 m2 b2 b3 br : Nat} (h : Lv W bl bs m0 m1 m2 b2 b3 br) {k : Nat} (hk : k ≤ 2) : ∃ m, W.cell? ⟨bs, k, none⟩ = some (.map (some m)) ∧ W.heap[m]? = some (mapO (trues (ops k))) := by
 obtain rfl | rfl | rfl : k = 0 ∨ k = 1 ∨ k = 2 := by omega
 ·exact ⟨m0, h.row.cell 0, h.e0⟩
 ·exact ⟨m1, h.row.cell 1, h.e1⟩
 ·exact ⟨m2, h.row.cell 2, h.e2⟩
abbrev levB (sub : Par T1) (k g : Nat) : Par T1 := bindP sub fun x => binsF sub k g x
abbrev levA (sub : Par T1) (k g : Nat) (t : PT) : Par T1 := bindP sub fun x => binsF sub k g (mk 12 t.2.1 t.1.text 0 [x])
abbrev levK (sub : Par T1) (k g : Nat) : Par T1 := tokP (sgT k) (levA sub k g) (levB sub k g)
theorem levK_1 {sub : Par T1} {k g : Nat} (h : k = 1) : levK sub k g = tokP (tT sPlu) (levA sub k g) (tokP (tT sMin) (levA sub k g) (levB sub k g)) := by
 subst h
 funext L i
 unfold levK tokP sgT
 cases tT sPlu (tk L i) <;> cases tT sMin (tk L i) <;> rfl
theorem levK_n {sub : Par T1} {k g : Nat} (h : ¬ k = 1) : levK sub k g = levB sub k g := by
 funext L i
 unfold levK tokP sgT
 rw [decide_eq_false h]
 rfl
theorem binsF_y {sub : Par T1} {k f : Nat} {x : T1} : binsF sub k (f + 1) x = tokP (opT k) (fun t0 => bindP sub (fun y => if k = 0 then retP (mk 11 t0.2.1 t0.1.text 0 [x, y]) else binsF sub k f (mk 11 t0.2.1 t0.1.text 0 [x, y]))) (retP x) := rfl
theorem opT_tk {L : List PT} {j k k8 s1 s2 q3 q4 : Nat} {t8 : ByteArray} {n8 : Int} (h : tk L j = tkOf k8 s1 s2 q3 q4 t8 n8) : opT k (tk L j) = ((decide (k8 = 5) || decide (k8 = 6)) && (ops k).any (fun s => decide (s = t8))) := by
 rw [h]; rfl
theorem lev_y {g : Nat} {w0 : World} {br c : Nat} {A : Option Addr} {L : List PT} (ht : Toks w0 br A L) (hgL : L.length < g) {bl bs m0 m1 m2 b2 b3 : Nat} {sub : Par T1} (hs : Good2 sub) {k : Nat} (hk : k ≤ 2) {lo : Nat} (hS : ∀ j, lo ≤ j → j ≤ L.length → ∀ w, PInv w0 w br A c L j → Lv w bl bs m0 m1 m2 b2 b3 br → Calls Tryz.prog 141 #[.int .i64 ((k : Int) + 1), .pointer (some ⟨bl, 0, none⟩), .pointer (some ⟨b2, 0, none⟩), .pointer (some ⟨b3, 0, none⟩)] w (TreeR w.heap.size w0 w br A c L (sub L j))) (i : Nat) (hlo : lo ≤ i) (hi : i ≤ L.length) (w : World) (h : PInv w0 w br A c L i) (hv : Lv w bl bs m0 m1 m2 b2 b3 br) :
 Calls Tryz.prog 141 #[.int .i64 k, .pointer (some ⟨bl, 0, none⟩), .pointer (some ⟨b2, 0, none⟩), .pointer (some ⟨b3, 0, none⟩)] w (TreeR w.heap.size w0 w br A c L (levK sub k g L i)) := by
 have hbr := h.row.lt
 have H0 := qh h
 have HT := qh ht
 obtain ⟨res, hs0⟩ : ∃ r, r = levK sub k g L i := ⟨_, rfl⟩
 rw [← hs0]
 have S := qh (S1.start h hi hs0)
 clear h ht hs0 hi
 go_enter Tryz.func141, Tryz.ntmps141
 have t3 : ((k : Int) == 3) = false := by simp only [beq_eq_false_iff_ne, ne_eq]; omega
 have HV := qh hv
 have HSUB := qh hS
 obtain ⟨v1, v2, v3, v4, v5, v6⟩ := HV.out.facts
 obtain ⟨l1, l2, l3, l4⟩ := HV.out.lts
 clear hv hS
 go_wp2_with fail
 (with_reducible refine S.out.now' HT.out ?_)
 clear S
 intro k_p p1 p2 q3_p q4_p t_p n_p wx HPp S hg
 have HV := qh (HV.out.grown hg.out)
 clear v1 v2 v3 v4 v5 v6 l1 l2 l3 l4
 obtain ⟨v1, v2, v3, v4, v5, v6⟩ := HV.out.facts
 obtain ⟨l1, l2, l3, l4⟩ := HV.out.lts
 have HB6 := qh (Blk.new wx 40 #[.int .u8 k_p, .complex .f64 (fl p1) (fl p2), .complex .f64 (fl q3_p) (fl q4_p), .string t_p, .int .i64 n_p])
 have hbw := Nat.lt_of_lt_of_le hbr S.out.pg.2.size
 have S := qh (S.out.below ((Below.refl _ _).alloc nl (.cells #[.int .u8 k_p, .complex .f64 (fl p1) (fl p2), .complex .f64 (fl q3_p) (fl q4_p), .string t_p, .int .i64 n_p] 40)))
 have HV := qh (HV.out.below ((Below.refl _ _).alloc nl (.cells #[.int .u8 k_p, .complex .f64 (fl p1) (fl p2), .complex .f64 (fl q3_p) (fl q4_p), .string t_p, .int .i64 n_p] 40)))
 go_upto_region 4 with fail
 generalize hb6 : wx.heap.size = b6 at *
 generalize wx.alloc (.cells #[.int .u8 k_p, .complex .f64 (fl p1) (fl p2), .complex .f64 (fl q3_p) (fl q4_p), .string t_p, .int .i64 n_p] 40) = w4 at *
 clear v1 v2 v3 v4 v5 v6 l1 l2 l3 l4
 obtain ⟨v1, v2, v3, v4, v5, v6⟩ := HV.out.facts
 obtain ⟨l1, l2, l3, l4⟩ := HV.out.lts
 go_cut [7] (fun v7 wc => ∃ sg : Bool, v7 = .bool sg ∧ Hid (∃ j1, lo ≤ j1 ∧ S1 w0 w wc br c A L res (bindP sub fun x => binsF sub k g (cond sg (mk 12 (p1, p2) t_p 0 [x]) x)) j1 ∧ Lv wc bl bs m0 m1 m2 b2 b3 br ∧ Blk wc b6 40 #[.int .u8 k_p, .complex .f64 (fl p1) (fl p2), .complex .f64 (fl q3_p) (fl q4_p), .string t_p, .int .i64 n_p]))
 case first =>
  by_cases hk1 : k = 1
  case pos =>
   have t1 : ((k : Int) == 1) = true := by subst hk1; rfl
   have S := qh (S.out.of (q := tokP (tT sPlu) (levA sub k g) (tokP (tT sMin) (levA sub k g) (levB sub k g))) (by rw [← levK_1 hk1]))
   clear hk1
   go_wp2_with fail
   (with_reducible refine S.out.eat HT.out ?_ ?_)
   ·clear S
    intro wx S hg hT
    have HV := qh (HV.out.grown hg.out)
    have HB6 := qh (HB6.out.grown hg.out (by intro e; injection e with e; omega))
    clear v1 v2 v3 v4 v5 v6 l1 l2 l3 l4
    obtain ⟨v1, v2, v3, v4, v5, v6⟩ := HV.out.facts
    obtain ⟨l1, l2, l3, l4⟩ := HV.out.lts
    have S := qh (by have h := S.out; (try dsimp only at h); rw [HPp.out] at h; exact h)
    go_wp2_with fail
    go_meet
    exact ⟨true, rfl, qh ⟨i + 1, by omega, S.out.of (by rfl), HV.out, HB6.out⟩⟩
   ·clear S
    intro wx S hg hT
    have HV := qh (HV.out.grown hg.out)
    have HB6 := qh (HB6.out.grown hg.out (by intro e; injection e with e; omega))
    clear v1 v2 v3 v4 v5 v6 l1 l2 l3 l4
    obtain ⟨v1, v2, v3, v4, v5, v6⟩ := HV.out.facts
    obtain ⟨l1, l2, l3, l4⟩ := HV.out.lts
    go_wp2_with fail
    (with_reducible refine S.out.eat HT.out ?_ ?_)
    ·clear S
     intro wx S hg hT
     have HV := qh (HV.out.grown hg.out)
     have HB6 := qh (HB6.out.grown hg.out (by intro e; injection e with e; omega))
     clear v1 v2 v3 v4 v5 v6 l1 l2 l3 l4
     obtain ⟨v1, v2, v3, v4, v5, v6⟩ := HV.out.facts
     obtain ⟨l1, l2, l3, l4⟩ := HV.out.lts
     have S := qh (by have h := S.out; (try dsimp only at h); rw [HPp.out] at h; exact h)
     go_wp2_with fail
     go_meet
     exact ⟨true, rfl, qh ⟨i + 1, by omega, S.out.of (by rfl), HV.out, HB6.out⟩⟩
    ·clear S
     intro wx S hg hT
     have HV := qh (HV.out.grown hg.out)
     have HB6 := qh (HB6.out.grown hg.out (by intro e; injection e with e; omega))
     clear v1 v2 v3 v4 v5 v6 l1 l2 l3 l4
     obtain ⟨v1, v2, v3, v4, v5, v6⟩ := HV.out.facts
     obtain ⟨l1, l2, l3, l4⟩ := HV.out.lts
     go_wp2_with fail
     go_meet
     exact ⟨false, rfl, qh ⟨i, by omega, S.out.of (by rfl), HV.out, HB6.out⟩⟩
  case neg =>
   have t1 : ((k : Int) == 1) = false := by simp only [beq_eq_false_iff_ne, ne_eq]; omega
   have S := qh (S.out.of (q := levB sub k g) (by rw [← levK_n hk1]))
   go_wp2_with fail
   go_meet
   exact ⟨false, rfl, qh ⟨i, by omega, S.out.of (by rfl), HV.out, HB6.out⟩⟩
 case rest =>
  obtain ⟨sg, rfl, hc⟩ := hcut
  obtain ⟨j1, hlj1, hc1, hc2, hc3⟩ := hc.out
  clear S HV HB6 hc
  clear v1 v2 v3 v4 v5 v6 l1 l2 l3 l4
  have S := qh hc1
  have HV := qh hc2
  have HB6 := qh hc3
  clear hc1 hc2 hc3
  obtain ⟨v1, v2, v3, v4, v5, v6⟩ := HV.out.facts
  obtain ⟨l1, l2, l3, l4⟩ := HV.out.lts
  have HZ := qh S.out.pg.2.size
  go_wp2_with fail
  (with_reducible refine S.out.tree (HSUB.out _ (by omega) S.out.le _ S.out.pg.1 HV.out) hs ?_ ?_)
  ·intro k w1 h hg; go_wp2; exact ⟨rfl, S1.errT h.out hg.out _⟩
  clear S
  intro x bx j2 wx hj2 S hg Hx
  have HV := qh (HV.out.grown hg.out)
  have HB6 := qh (HB6.out.grown hg.out (by intro e; injection e with e; omega))
  have Hx := qh (Hx.out.more (S' := fun y => w.heap.size ≤ y) fun y hy _ => Nat.le_trans HZ.out hy)
  clear HZ
  clear v1 v2 v3 v4 v5 v6 l1 l2 l3 l4
  obtain ⟨v1, v2, v3, v4, v5, v6⟩ := HV.out.facts
  obtain ⟨l1, l2, l3, l4⟩ := HV.out.lts
  go_upto_if 32 with fail
  go_cut [8] (fun v8 wd => ∃ b8, v8 = .pointer (some ⟨b8, 0, none⟩) ∧ Hid (S1 w0 w wd br c A L res (binsF sub k g (cond sg (mk 12 (p1, p2) t_p 0 [x]) x)) j2 ∧ RepS (fun y => w.heap.size ≤ y) wd (.node (cond sg (mk 12 (p1, p2) t_p 0 [x]) x).1 (cond sg (mk 12 (p1, p2) t_p 0 [x]) x).2 .no) [.pointer (some ⟨b8, 0, none⟩)] ∧ Lv wd bl bs m0 m1 m2 b2 b3 br))
  case first =>
   cases sg with
   | true =>
     obtain ⟨c0, c1, c2, c3, c4, f0, f1, f2, f3, f4⟩ := HB6.out.tok
     have NW := qh (new_litE (B := w.heap.size) (w := wx) S.out.pg.2.size 12 12 rfl p1 p2 t_p [.pointer (some ⟨bx, 0, none⟩)] [x] wx.heap.size rfl 1 rfl (by decide) (repN_of Hx.out))
     go_wp2_with fail
     ((with_reducible refine NW.out.mono ?_); rintro e wy ⟨b, rfl, hb, hr⟩)
     have Hb := qh hr
     have S := qh (S.out.below hb)
     have HV := qh (HV.out.below hb)
     clear hb hr NW
     go_wp2_with fail
     go_meet
     exact ⟨b, rfl, qh ⟨S.out, Hb.out, HV.out⟩⟩
   | false =>
     go_wp2_with fail
     go_meet
     exact ⟨bx, rfl, qh ⟨S.out, Hx.out, HV.out⟩⟩
  case rest =>
   clear v1 v2 v3 v4 v5 v6 l1 l2 l3 l4
   obtain ⟨b8, rfl, hc⟩ := hcut
   obtain ⟨hc1, hc2, hc3⟩ := hc.out
   clear S Hx HV HB6 hc
   have S := qh hc1
   have Hx := qh hc2
   have HV := qh hc3
   clear hc1 hc2 hc3
   generalize (cond sg (mk 12 (p1, p2) t_p 0 [x]) x) = x at *
   obtain ⟨v1, v2, v3, v4, v5, v6⟩ := HV.out.facts
   obtain ⟨l1, l2, l3, l4⟩ := HV.out.lts
   go_wp2_with fail
   (with_reducible refine S.out.now' HT.out ?_)
   clear S
   intro k_q q1 q2 q3_q q4_q t_q n_q wx HPq S hg
   have Hx := qh (repS_grown Hx.out hg.out hbr)
   have HV := qh (HV.out.grown hg.out)
   have HB9 := qh (Blk.new wx 40 #[.int .u8 k_q, .complex .f64 (fl q1) (fl q2), .complex .f64 (fl q3_q) (fl q4_q), .string t_q, .int .i64 n_q])
   have hwx := S.out.pg.2.size
   have S := qh (S.out.below ((Below.refl _ _).alloc nl (.cells #[.int .u8 k_q, .complex .f64 (fl q1) (fl q2), .complex .f64 (fl q3_q) (fl q4_q), .string t_q, .int .i64 n_q] 40)))
   have Hx := qh (Hx.out.below ((Below.refl _ _).alloc nl (.cells #[.int .u8 k_q, .complex .f64 (fl q1) (fl q2), .complex .f64 (fl q3_q) (fl q4_q), .string t_q, .int .i64 n_q] 40)))
   have HV := qh (HV.out.below ((Below.refl _ _).alloc nl (.cells #[.int .u8 k_q, .complex .f64 (fl q1) (fl q2), .complex .f64 (fl q3_q) (fl q4_q), .string t_q, .int .i64 n_q] 40)))
   clear v1 v2 v3 v4 v5 v6 l1 l2 l3 l4
   go_wp2_with fail
   go_loopg [8, 9] (L.length + 1) (fun gh xv tv wr => ∃ (x : T1) (bx b9 j f : Nat), xv = .pointer (some ⟨bx, 0, none⟩) ∧ tv = .pointer (some ⟨b9, 0, none⟩) ∧ br < b9 ∧ lo ≤ j ∧ L.length + 1 - j ≤ gh ∧ L.length < j + f ∧ Hid (S1 w0 w wr br c A L res (binsF sub k f x) j) ∧ Hid (RepS (fun y => w.heap.size ≤ y) wr (.node x.1 x.2 .no) [.pointer (some ⟨bx, 0, none⟩)]) ∧ Hid (Lv wr bl bs m0 m1 m2 b2 b3 br) ∧ Hid (Blk wr b9 40 (PT.vals (tk L j)).toArray))
   case atStart => exact ⟨x, b8, wx.heap.size, j2, g, rfl, rfl, by omega, by omega, by omega, by omega, S, Hx, HV, qh (by rw [HPq.out]; exact HB9.out)⟩
   case round =>
    clear S Hx HV HB9 HPq
    obtain ⟨x, bx, b9, j, f, rfl, rfl, hb9, hlj, hgh, hf, S, Hx, HV, HB9⟩ := hrel
    have hjl := S.out.le
    obtain ⟨wo, rfl⟩ : ∃ wo : World, wo = wr := ⟨_, rfl⟩
    obtain ⟨v1, v2, v3, v4, v5, v6⟩ := HV.out.facts
    obtain ⟨l1, l2, l3, l4⟩ := HV.out.lts
    obtain ⟨mk_, vm, hm⟩ := HV.out.op hk
    obtain ⟨f, rfl⟩ : ∃ f', f = f' + 1 := ⟨f - 1, by omega⟩
    have S := qh (S.out.of (congrFun (congrFun binsF_y L) j))
    obtain ⟨k8, s1, s2, q3, q4, t8, n8, e1, e2⟩ := val_form (tk L j)
    have HTK := qh (show tk L j = tkOf k8 s1 s2 q3 q4 t8 n8 from e1)
    have HB9 := qh (show Blk wo b9 40 #[.int .u8 k8, .complex .f64 (fl s1) (fl s2), .complex .f64 (fl q3) (fl q4), .string t8, .int .i64 n8] by have := HB9.out; rw [e1] at this; exact this)
    obtain ⟨c0, c1, c2, c3, c4, f0, f1, f2, f3, f4⟩ := HB9.out.tok
    have hlk := fun n => look_op (W := wo.drewN n) (k := k) (m := mk_) hm t8
    have k5 : ((k8 : Int) == 5) = decide (k8 = 5) := by rw [Bool.eq_iff_iff, beq_iff_eq, decide_eq_true_eq]; omega
    have k6 : ((k8 : Int) == 6) = decide (k8 = 6) := by rw [Bool.eq_iff_iff, beq_iff_eq, decide_eq_true_eq]; omega
    clear e1 e2 hm
    generalize hbo : (ops k).any (fun s => decide (s = t8)) = bo at *
    generalize hb5 : decide (k8 = 5) = b5 at *
    generalize hb6 : decide (k8 = 6) = b6 at *
    have HOP : Hid (opT k (tk L j) = ((b5 || b6) && bo)) := qh (by rw [opT_tk HTK.out, hbo, hb5, hb6])
    clear hbo hb5 hb6
    rcases b5 with _ | _ <;> rcases b6 with _ | _ <;> rcases bo with _ | _
    all_goals
     go_wp2
     go_quiet (fail)
     have hbd : Below wo.heap.size wo (wo.drewN nq) := Lx.below_drewN (Below.refl _ _) nq
     have S := qh (S.out.below hbd)
     have Hx := qh (Hx.out.below hbd)
     have HV := qh (HV.out.below hbd)
     have HB9 := qh (HB9.out.drewN nq)
     clear hbd hlk vm v1 v2 v3 v4 v5 v6 l1 l2 l3 l4 c0 c1 c2 c3 c4 f0 f1 f2 f3 f4
     generalize wo.drewN nq = wd at *
     have HPI := qh S.out.pg.1
     first
      | (have hop : opT k (tk L j) = false := HOP.out
         have S := qh (S.out.of (yt_n hop))
         go_wp2
         go_ret
         exact S.out.doneT Hx.out)
      | (have hop : opT k (tk L j) = true := HOP.out
         have S := qh (S.out.inc hop (opT_no k))
         rw [HTK.out] at S
         have hjl := S.out.le
         have hlen := HT.out.len
         obtain ⟨v1, v2, v3, v4, v5, v6⟩ := HV.out.facts
         obtain ⟨l1, l2, l3, l4⟩ := HV.out.lts
         obtain ⟨a1, a2, a3⟩ := HPI.out.at_
         have x0 : (0 : Int) ≤ (j : Int) := by omega
         have hgs := Lx.grown_set wd br 1 (.int .i64 ((j + 1 : Nat) : Int))
         have Hx := qh (repS_grown Hx.out hgs hbr)
         have HV := qh (HV.out.grown hgs)
         have HB9 := qh (HB9.out.far (p := ⟨br, 1, none⟩) (Nat.ne_of_gt hb9) (.int .i64 ((j + 1 : Nat) : Int)))
         rw [show (((j + 1 : Nat) : Int)) = (j : Int) + 1 from by omega] at S Hx HV HB9
         clear hgs HPI
         go_upto_region 12 with fail
         generalize wd.setCell ⟨br, 1, none⟩ (.int .i64 ((j : Int) + 1)) = we at *
         clear v1 v2 v3 v4 v5 v6 l1 l2 l3 l4
         clear a1 a2 a3
         have S := qh (S.out.below (Below.refl _ _).drew)
         have Hx := qh (Hx.out.below (Below.refl _ _).drew)
         have HV := qh (HV.out.below (Below.refl _ _).drew)
         have HB9 := qh (HB9.out.drewN 1)
         have v6 : we.drew.cell? ⟨b3, 0, none⟩ = some (.func (.func 141) #[] #[.pointer (some ⟨bl, 0, none⟩), .pointer (some ⟨b2, 0, none⟩), .pointer (some ⟨b3, 0, none⟩)]) := HV.out.fb.cell 0
         have c1 : we.drew.cell? ⟨b9, 1, none⟩ = some (.complex .f64 (fl s1) (fl s2)) := HB9.out.cell 1
         have c3 : we.drew.cell? ⟨b9, 3, none⟩ = some (.string t8) := HB9.out.cell 3
         have HZ := qh S.out.pg.2.size
         have hwr : IntKind.i64.wrap ((k : Int) + 1) = (k : Int) + 1 := IntWalk.i64_in _ (by omega)
         have D1 := qh (S.out.treeD (HSUB.out _ (by omega) S.out.le _ S.out.pg.1 HV.out) hs)
         clear S
         go_cut [8] (fun v8 wh => ∃ (b8 : Nat) (wq : World), v8 = .pointer (some ⟨b8, 0, none⟩) ∧ wq = wh ∧ Hid (∃ y j4, j < j4 ∧ S1 w0 w wh br c A L res (if k = 0 then retP (mk 11 (s1, s2) t8 0 [x, y]) else binsF sub k f (mk 11 (s1, s2) t8 0 [x, y])) j4 ∧ RepS (fun y => w.heap.size ≤ y) wh (.node (mk 11 (s1, s2) t8 0 [x, y]).1 (mk 11 (s1, s2) t8 0 [x, y]).2 .no) [.pointer (some ⟨b8, 0, none⟩)] ∧ Lv wh bl bs m0 m1 m2 b2 b3 br ∧ Blk wh b9 40 #[.int .u8 k8, .complex .f64 (fl s1) (fl s2), .complex .f64 (fl q3) (fl q4), .string t8, .int .i64 n8]))
         case first =>
          go_region_law (first
           | (go_simp; go_at_call 141; (with_reducible refine D1.out.mono ?_); rintro e v (⟨k', rfl, h, hgr⟩ | ⟨y, b_y, j4, rfl, hj4, S, hgr, hr⟩); (case' inl => exact ⟨rfl, S1.errT h.out hgr.out _⟩); have HB2 := qh (HB9.out.grown hgr.out (by intro e; injection e with e; omega)); have HV2 := qh (HV.out.grown hgr.out); have c1x : v.cell? ⟨b9, 1, none⟩ = some (.complex .f64 (fl s1) (fl s2)) := HB2.out.cell 1; have c3x : v.cell? ⟨b9, 3, none⟩ = some (.string t8) := HB2.out.cell 3; have HR := qh (show RepN (fun y => w.heap.size ≤ y) v (forest [x, y]) [.pointer (some ⟨bx, 0, none⟩), .pointer (some ⟨b_y, 0, none⟩)] from repN_of (repS_cons (repS_grown Hx.out hgr.out hbr) (hr.out.more (S' := fun y => w.heap.size ≤ y) fun y hy _ => Nat.le_trans HZ.out hy))); have HB3 := qh (HB2.out.below ((Below.refl _ _).alloc nl (.cells #[.pointer (some ⟨bx, 0, none⟩), .pointer (some ⟨b_y, 0, none⟩)] 31)) HB2.out.lt); have c1y : (v.alloc (.cells #[.pointer (some ⟨bx, 0, none⟩), .pointer (some ⟨b_y, 0, none⟩)] 31)).cell? ⟨b9, 1, none⟩ = some (.complex .f64 (fl s1) (fl s2)) := HB3.out.cell 1; have c3y : (v.alloc (.cells #[.pointer (some ⟨bx, 0, none⟩), .pointer (some ⟨b_y, 0, none⟩)] 31)).cell? ⟨b9, 3, none⟩ = some (.string t8) := HB3.out.cell 3)
           | (go_simp; go_at_call 33; (with_reducible refine (new_litE (B := w.heap.size) (w := v) S.out.pg.2.size 11 11 rfl s1 s2 t8 [.pointer (some ⟨bx, 0, none⟩), .pointer (some ⟨b_y, 0, none⟩)] [x, y] v.heap.size rfl 2 rfl (by decide) HR.out).mono ?_); rintro e v2 ⟨b, rfl, hb, hr2⟩; have S := qh (S.out.below hb); have HV2 := qh (HV2.out.below hb); have HB2 := qh (HB2.out.below hb HB2.out.lt); have HY := qh hr2; clear hb hr2))
          all_goals
           go_wp2_with fail
           go_meet
           exact ⟨b, _, rfl, rfl, qh ⟨y, j4, by omega, S.out, HY.out, HV2.out, HB2.out⟩⟩
         case rest =>
          obtain ⟨b8, wh, rfl, rfl, hc⟩ := hcut
          obtain ⟨y, j4, hj4, hc1, hc2, hc3, hc4⟩ := hc.out
          clear Hx HV HB9 hc D1 v6 c1 c3 HZ
          have S := qh hc1
          have Hx := qh hc2
          have HV := qh hc3
          have HB9 := qh hc4
          clear hc1 hc2 hc3 hc4
          have hjl4 := S.out.le
          by_cases hk0 : k = 0
          case pos =>
           have t0 : ((k : Int) == 0) = true := by subst hk0; rfl
           have S := qh (S.out.yes hk0)
           go_wp2
           go_ret
           exact S.out.doneT Hx.out
          case neg =>
           have t0 : ((k : Int) == 0) = false := by simp only [beq_eq_false_iff_ne, ne_eq]; omega
           have S := qh (S.out.no hk0)
           generalize mk 11 (s1, s2) t8 0 [x, y] = z at *
           obtain ⟨c0, c1, c2, c3, c4, f0, f1, f2, f3, f4⟩ := HB9.out.tok
           obtain ⟨v1, v2, v3, v4, v5, v6⟩ := HV.out.facts
           obtain ⟨l1, l2, l3, l4⟩ := HV.out.lts
           obtain ⟨k7, r1, r2, q5, q6, t7, n7, e1, e2⟩ := val_form (tk L j4)
           have hbz : Below wh.heap.size wh (wh.alloc (.cells #[.int .u8 k8, .complex .f64 (fl s1) (fl s2), .complex .f64 (fl q3) (fl q4), .string t8, .int .i64 n8] 40)) := (Below.refl _ _).alloc nl _
           have hlen := HT.out.len
           have n1 := now_any HT.out (i := j4) (by omega) _ (S.out.pg.1.below hbz)
           rw [e2] at n1
           have N1 := qh n1
           have HTK2 := qh e1
           have HBZ := qh hbz
           have HBN := qh (Blk.new wh 40 #[.int .u8 k8, .complex .f64 (fl s1) (fl s2), .complex .f64 (fl q3) (fl q4), .string t8, .int .i64 n8])
           have halz : wh.heap.size < (wh.alloc (.cells #[.int .u8 k8, .complex .f64 (fl s1) (fl s2), .complex .f64 (fl q3) (fl q4), .string t8, .int .i64 n8] 40)).heap.size := by rw [World.size_alloc]; exact Nat.lt_succ_self _
           have hwh := S.out.pg.2.size
           clear n1 e1 e2 hbz
           go_wp2_with fail
           ((with_reducible refine (N1.out).mono ?_); rintro e wi ⟨rfl, hb⟩)
           have hpg := ((PG.start S.out.pg.1).below HBZ.out).below hb
           have hbn := HBN.out.below hb halz
           have HPG := qh (hpg.store5 S.out.pg.1 nl (.int .u8 k7) (.complex .f64 (fl r1) (fl r2)) (.complex .f64 (fl q5) (fl q6)) (.string t7) (.int .i64 n7))
           have HBF := qh (Lx.tok_stored hbn (.int .u8 k7) (.complex .f64 (fl r1) (fl r2)) (.complex .f64 (fl q5) (fl q6)) (.string t7) (.int .i64 n7))
           obtain ⟨y0, y1, y2, y3, y4, g0, g1, g2, g3, g4⟩ := hbn.tok
           have hbrz := S.out.pg.1.row.lt
           clear hpg hbn hb c0 c1 c2 c3 c4 f0 f1 f2 f3 f4 N1 HBN HBZ halz
           clear v1 v2 v3 v4 v5 v6 l1 l2 l3 l4
           go_wp2
           go_roundg (L.length + 1 - j4)
           case rel => exact ⟨z, b8, wh.heap.size, j4, f, rfl, rfl, by omega, by omega, by omega, by omega, qh ⟨S.out.pg.trans ⟨HPG.out.1, HPG.out.2⟩, S.out.eq, S.out.le⟩, qh (repS_grown Hx.out HPG.out.2 hbr), qh (HV.out.grown HPG.out.2), qh (by rw [HTK2.out]; exact HBF.out)⟩
           case measure => omega)
end Ex
end Go.Proofs.YtkemhmfdooghkaaGreatDoor
