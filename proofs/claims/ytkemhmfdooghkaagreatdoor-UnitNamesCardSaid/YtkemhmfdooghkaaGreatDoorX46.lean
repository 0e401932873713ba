import Derived.Test.YtkemhmfdooghkaaGreatDoorX45
import Derived.Deep.Slices
import Derived.Deep.Fields
import Derived.ChangeSame
import Derived.ChangeSlices
set_option linter.unusedSimpArgs false
set_option linter.unusedVariables false
set_option maxRecDepth 100000
set_option maxHeartbeats 6400000
namespace Go.Proofs.YtkemhmfdooghkaaGreatDoor
namespace Rn
open Go.RowKit
open Lx (Tk noTk bt Blk EnvS run_store_complexL)
open Fl
open Ex
open St (Prt Parts)
attribute [local go_sem] run_store_complexL
section
variable {k : Nat} {l : List Nat} {A1 A2 : Option Addr} {c1 c2 : Nat} {q : List (Prt × Value)} {w : World}
theorem RowO.form {w : World} {B : Nat} {v : Value} {L : List PT} (h : RowO w B v L) (h0 : 0 < L.length) (hl : L.length ≤ 20000) :
 ∃ g cap, v = .slice (some ⟨g, 0, none⟩) L.length cap ∧ B ≤ g ∧ g < w.heap.size ∧ (∀ j, w.frozen? ⟨g, j, none⟩ = false) ∧ RowAt w (some ⟨g, 0, none⟩) L := by
 have h1 := h.at_ hl
 rcases h.2 with ⟨_, h2⟩ | ⟨g, cap, cur, rfl, hb, hg, _⟩
 ·omega
 ·obtain ⟨A, c, e, hr⟩ := h1
  injection e with e _ _
  subst e
  refine ⟨g, cap, rfl, hb, (Array.getElem?_eq_some_iff.1 hg).1, fun j => ?_, hr⟩
  simp [World.frozen?, hg]
abbrev nameT (t : PT) (name : ByteArray) : PT := (⟨t.1.kind, name, t.1.n⟩, t.2)
theorem set_same {w : World} {p : Addr} {v : Value} (h : w.cell? p = some v) (q : Addr) : (w.setCell p v).cell? q = w.cell? q := by
 by_cases e : q = p
 ·subst e; rw [World.cell?_setCell_same _ _ _ h, h]
 ·exact World.cell?_setCell_other _ _ _ _ (fun e2 => e e2.symm)
theorem flat_named (L : List PT) (name : ByteArray) (i : Nat) (hi : i < L.length) (j : Nat) : (flatP (L.set i (nameT L[i] name)))[j]? = if j = i * 5 + 3 then some (.string name) else (flatP L)[j]? := by
 rcases Nat.lt_or_ge j (L.length * 5) with h | h
 ·have e : j = j / 5 * 5 + j % 5 := by omega
  have ha : j / 5 < L.length := by omega
  have hr : j % 5 < 5 := by omega
  generalize j / 5 = a at *
  generalize j % 5 = r at *
  subst e
  rw [flatP_at _ a r (by rw [List.length_set]; exact ha) hr, flatP_at _ a r ha hr, List.getElem_set]
  by_cases e : i = a
  ·subst e
   rw [if_pos rfl]
   match r, hr with
   | 0, _ => rw [if_neg (by omega)]; rfl
   | 1, _ => rw [if_neg (by omega)]; rfl
   | 2, _ => rw [if_neg (by omega)]; rfl
   | 3, _ => rw [if_pos rfl]; rfl
   | 4, _ => rw [if_neg (by omega)]; rfl
  ·rw [if_neg e, if_neg (by omega)]
 ·rw [if_neg (by omega), List.getElem?_eq_none (by rw [flatP_len, List.length_set]; exact h), List.getElem?_eq_none (by rw [flatP_len]; exact h)]
abbrev namedW (w : World) (g o : Nat) (t : PT) (name : ByteArray) : World := ((((w.setCell ⟨g, o, none⟩ (.int .u8 t.1.kind)).setCell ⟨g, o + 1, none⟩ (.complex .f64 (fl t.2.1.1) (fl t.2.1.2))).setCell ⟨g, o + 2, none⟩ (.complex .f64 (fl t.2.2.1) (fl t.2.2.2))).setCell ⟨g, o + 3, none⟩ (.string name)).setCell ⟨g, o + 4, none⟩ (.int .i64 t.1.n)
theorem cell_named {w : World} {g o : Nat} {t : PT} (name : ByteArray) (p0 : w.cell? ⟨g, o, none⟩ = some (.int .u8 t.1.kind)) (p1 : w.cell? ⟨g, o + 1, none⟩ = some (.complex .f64 (fl t.2.1.1) (fl t.2.1.2))) (p2 : w.cell? ⟨g, o + 2, none⟩ = some (.complex .f64 (fl t.2.2.1) (fl t.2.2.2)))
 (p3 : w.cell? ⟨g, o + 3, none⟩ = some (.string t.1.text)) (p4 : w.cell? ⟨g, o + 4, none⟩ = some (.int .i64 t.1.n)) (q : Addr) : (namedW w g o t name).cell? q = if q = ⟨g, o + 3, none⟩ then some (.string name) else w.cell? q := by
 unfold namedW
 have c1 := set_same p0
 generalize w.setCell ⟨g, o, none⟩ (.int .u8 t.1.kind) = w1 at c1 ⊢
 have c2 := fun q => (set_same ((c1 _).trans p1) q).trans (c1 q)
 generalize w1.setCell ⟨g, o + 1, none⟩ _ = w2 at c2 ⊢
 have c3 := fun q => (set_same ((c2 _).trans p2) q).trans (c2 q)
 generalize w2.setCell ⟨g, o + 2, none⟩ _ = w3 at c3 ⊢
 have c4 : ∀ q, (w3.setCell ⟨g, o + 3, none⟩ (.string name)).cell? q = if q = ⟨g, o + 3, none⟩ then some (.string name) else w.cell? q := fun q => by
  by_cases e : q = ⟨g, o + 3, none⟩
  ·subst e; rw [if_pos rfl, World.cell?_setCell_same _ _ _ ((c3 _).trans p3)]
  ·rw [if_neg e, World.cell?_setCell_other _ _ _ _ (fun e2 => e e2.symm), c3]
 generalize w3.setCell ⟨g, o + 3, none⟩ _ = w4 at c4 ⊢
 have p5 : w4.cell? ⟨g, o + 4, none⟩ = some (.int .i64 t.1.n) := by rw [c4, if_neg (by simp), p4]
 rw [set_same p5, c4]
theorem row_named {w : World} {g : Nat} {L : List PT} (h : RowAt w (some ⟨g, 0, none⟩) L) (name : ByteArray) {i : Nat} (hi : i < L.length) (ob : Obj) {B : Nat} (hB : B ≤ g) :
 RowAt ((namedW w g (i * 5) L[i] name).alloc ob) (some ⟨g, 0, none⟩) (L.set i (nameT L[i] name)) ∧ Below B w ((namedW w g (i * 5) L[i] name).alloc ob) := by
 obtain ⟨gx, ox, e, hg, p0, p1, p2, p3, p4⟩ := RowAt.spot h hi
 injection e with e
 injection e with e1 e2
 subst e1 e2
 rw [Nat.zero_add] at p0 p1 p2 p3 p4
 have hb : Below B w (namedW w g (i * 5) L[i] name) := (((((Below.refl B w).setCell hB _).setCell hB _).setCell hB _).setCell hB _).setCell hB _
 have hs : (namedW w g (i * 5) L[i] name).heap.size = w.heap.size := by simp
 have hcn := cell_named name p0 p1 p2 p3 p4
 generalize namedW w g (i * 5) L[i] name = W at *
 have hc : ∀ j u, (flatP (L.set i (nameT L[i] name)))[j]? = some u → W.cell? ⟨g, j, none⟩ = some u := fun j u hu => by
  rw [flat_named] at hu
  rw [hcn]
  split at hu
  ·rename_i e
   subst e
   rw [if_pos rfl]
   exact hu
  ·rename_i e
   rw [if_neg (fun e2 => e (by injection e2))]
   obtain ⟨ad, e3, _, hcl⟩ := h.reads.2 (by omega)
   injection e3 with e3
   subst e3
   have := hcl j u hu
   rwa [Addr.add_lit, Nat.zero_add] at this
 have hrow : RowAt W (some ⟨g, 0, none⟩) (L.set i (nameT L[i] name)) := ⟨⟨by rw [flatP_len], fun _ => ⟨_, rfl, by rw [hs]; exact hg, fun j u hu => by rw [Addr.add_lit, Nat.zero_add]; exact hc j u hu⟩⟩, fun ad e => by injection e with e; subst e; rw [hs]; exact hg, by rw [List.length_set]; exact h.len⟩
 exact ⟨hrow.below ((Below.refl _ _).alloc nl ob), hb.alloc (by rw [hs]; omega) ob⟩
theorem news_all {w5 w' : World} {L : List PT} {ad : Addr} (h : RowAt w5 (some ad) L) (hb : Below w5.heap.size w5 w') : ∀ j u, (flatP L)[j]? = some u → w'.cell? (ad.add j) = some u := by
 have := news_take h hb nl
 rwa [List.take_length] at this
theorem name_ne {name : ByteArray} (h : ¬ name = nM) : ¬ name.toList = [77] := fun e => h (by
 rw [ByteArray.toList_eq] at e
 obtain ⟨⟨l⟩⟩ := name
 have e2 : l = [77] := e
 subst e2
 rfl)
theorem parse_named {L : List PT} {x : T1} (hw : Whole (L.length + 2) L x) (hn : x.1.name = nM) {w : World} {A : Option Addr} {name : ByteArray} (hL : L.length - 2 < L.length) (h : RowAt w A (L.set (L.length - 2) (nameT L[L.length - 2] name))) (c : Nat) :
 Calls Tryz.prog 10 #[.slice A L.length c] w fun e w' => ∃ v j f, e = .returned (.tuple #[.pointer v, .int .i64 j, .int .i64 f]) ∧ (¬ name = nM ∧ f = 60 ∧ j = (L.length : Int) - 2 ∨ name = nM ∧ f = 0) ∧ Below w.heap.size w w' := by
 have hl : (L.set (L.length - 2) (nameT L[L.length - 2] name)).length = L.length := List.length_set
 have hne : nM ≠ sNil := by decide
 by_cases e : name = nM
 ·subst e
  obtain ⟨r, _, h2, _, h4, h5⟩ := hw.pre
  have h6 : (tk L (L.length - 2)).1.text = nM := (h5 (by rw [← h4, hn]; exact hne)).trans (h4.symm.trans hn)
  have h7 : tk L (L.length - 2) = L[L.length - 2] := by unfold tk; rw [List.getElem?_eq_getElem hL]; rfl
  have h8 : nameT L[L.length - 2] nM = L[L.length - 2] := by
   rw [h7] at h6
   generalize L[L.length - 2] = t at *
   obtain ⟨⟨a, b, n⟩, d⟩ := t
   simp only at h6
   subst h6
   rfl
  rw [h8, List.set_getElem_self] at h
  exact (parse_ok h (by omega) hw.parse c).mono fun e w' ⟨b, e1, _, hb⟩ => ⟨_, _, _, e1, .inr ⟨rfl, rfl⟩, hb⟩
 ·have h1 : Un.parseU (L.length + 2) (L.set (L.length - 2) (nameT L[L.length - 2] name)) 0 = .error (L.length - 2) := hw.named (by rw [hn]; exact hne) hl (by rw [List.take_set_of_le nl]) (by
   unfold tk
   rw [List.getElem?_eq_getElem (by rw [hl]; exact hL), List.getElem_set, if_pos rfl, hn]
   exact e)
  have h2 := parse_err h (by rw [hl]; omega) h1 c
  rw [hl] at h2
  exact h2.mono fun e' w' ⟨e1, hb⟩ => ⟨_, _, _, e1, .inl ⟨e, rfl, by obtain ⟨_, _, h2, _⟩ := hw.pre; omega⟩, hb⟩
theorem names_big (name : ByteArray) (beh : Int) (h : 20 < l.length ∨ 10 < q.length) (E : EnvS w) : Calls Tryz.prog 5 #[.agg (madeV k A1 l.length c1 A2 q.length c2), .string name, .int .u8 beh] w fun e w' => e = .returned (.bool true) ∧ Below w.heap.size w w' := by
 have hb0 : Below w.heap.size w (w.alloc (madeO k A1 l.length c1 A2 q.length c2)) := (Below.refl _ _).alloc nl _
 have HWK := qh (Un.works_all (E.below nl hb0))
 have HB0 := qh hb0
 have HK := qh (Blk.new w 25 (madeV k A1 l.length c1 A2 q.length c2))
 clear hb0 E
 have v1 : (w.alloc (madeO k A1 l.length c1 A2 q.length c2)).cell? ⟨w.heap.size, 1, none⟩ = some (.slice A1 l.length c1) := HK.out.cell 1
 have v2 : (w.alloc (madeO k A1 l.length c1 A2 q.length c2)).cell? ⟨w.heap.size, 2, none⟩ = some (.slice A2 q.length c2) := HK.out.cell 2
 by_cases h1 : 20 < l.length
 ·have x1 : (20 : Int) < (l.length : Int) := by omega
  clear h
  go_enter Tryz.func5, Tryz.ntmps5
  go_wp2_with fail
  ((with_reducible refine HWK.out.mono ?_); rintro e w1 ⟨rfl, hb⟩)
  have HB := qh (HB0.out.trans (hb.mono HB0.out.size))
  clear hb
  go_wp2
  go_ret
  exact ⟨rfl, HB.out⟩
 ·have x1 : ¬ (20 : Int) < (l.length : Int) := by omega
  have x2 : (10 : Int) < (q.length : Int) := by omega
  clear h
  go_enter Tryz.func5, Tryz.ntmps5
  go_wp2_with fail
  ((with_reducible refine HWK.out.mono ?_); rintro e w1 ⟨rfl, hb⟩)
  have HB := qh (HB0.out.trans (hb.mono HB0.out.size))
  clear hb
  go_wp2
  go_ret
  exact ⟨rfl, HB.out⟩
theorem names_walk (hk : k < 256) (hl : Bys w A1 c1 l) (hq : Parts w A2 c2 q) (name : ByteArray) {beh : Nat} (hbe : beh < 256) (E : EnvS w) : Calls Tryz.prog 5 #[.agg (madeV k A1 l.length c1 A2 q.length c2), .string name, .int .u8 beh] w fun e w' => e = .returned (.bool true) ∧ Below w.heap.size w w' := by
 by_cases hbig : 20 < l.length ∨ 10 < q.length
 ·exact names_big name beh hbig E
 have x1 : ¬ (20 : Int) < (l.length : Int) := by omega
 have x1b : decide ((20 : Int) < (l.length : Int)) = false := decide_eq_false x1
 have x2 : ¬ (10 : Int) < (q.length : Int) := by omega
 have hfit := hq.fit
 have xo1 : (0 : Int) ≤ (beh : Int) := by omega
 have xo2 : (beh : Int) ≤ 255 := by omega
 have hq10 : q.length ≤ 10 := by omega
 have hb0 : Below w.heap.size w (w.alloc (madeO k A1 l.length c1 A2 q.length c2)) := (Below.refl _ _).alloc nl _
 have HE := qh (E.below nl hb0)
 have HB0 := qh hb0
 have HK := qh (Blk.new w 25 (madeV k A1 l.length c1 A2 q.length c2))
 have DS := qh (source_any hk (hl.below hb0) (hq.below hb0) hq10)
 have HSZ := qh (src_size (k := k) (l := l) hfit hq10)
 have HW := qh (fun g hn hg => row_unit (g := g) (k := k) (l := l) hfit hn hg)
 clear hb0 E hl hq hbig hfit
 generalize hs : srcX k l q = src at *
 clear hs
 have v1 : (w.alloc (madeO k A1 l.length c1 A2 q.length c2)).cell? ⟨w.heap.size, 1, none⟩ = some (.slice A1 l.length c1) := HK.out.cell 1
 have v2 : (w.alloc (madeO k A1 l.length c1 A2 q.length c2)).cell? ⟨w.heap.size, 2, none⟩ = some (.slice A2 q.length c2) := HK.out.cell 2
 have v0 : (w.alloc (madeO k A1 l.length c1 A2 q.length c2)).cell? ⟨w.heap.size, 0, none⟩ = some (.int .u8 k) := HK.out.cell 0
 go_enter Tryz.func5, Tryz.ntmps5
 go_wp2_with fail
 ((with_reducible refine DS.out.mono ?_); rintro e w1 ⟨rfl, hb⟩)
 have HB := qh (HB0.out.trans (hb.mono HB0.out.size))
 have HE := qh (HE.out.below nl hb)
 have DR := qh (row_any (bt src) (by have := HSZ.out; omega) w1)
 clear hb DS HB0 HK v0 v1 v2
 go_wp2_with fail
 ((with_reducible refine DR.out.mono ?_); rintro e w2 ⟨A, c, rfl, hc, hr, hb⟩)
 have hbs : (bt src).data.toList = src := rfl
 rw [hbs] at hc hr ⊢
 clear hbs
 have HB := qh (HB.out.trans (hb.mono HB.out.size))
 have HE := qh (HE.out.below nl hb)
 have HR := qh hr
 clear hb DR hr
 have hlr := rowP_len src
 generalize hL : rowP src = L at *
 have hsz2 := HSZ.out
 by_cases h0 : L.length < 3 ∨ 8192 < (bt src).size
 ·have HWK := qh (Un.works_all HE.out)
  by_cases h3 : L.length < 3
  ·have x0 : (L.length : Int) < 3 := by omega
   clear h0
   go_wp2_with fail
   ((with_reducible refine HWK.out.mono ?_); rintro e w3 ⟨rfl, hb⟩)
   have HB := qh (HB.out.trans (hb.mono HB.out.size))
   clear hb
   go_wp2
   go_ret
   exact ⟨rfl, HB.out⟩
  ·have x0 : ¬ (L.length : Int) < 3 := by omega
   have x0b : decide ((L.length : Int) < 3) = false := decide_eq_false x0
   have x3 : (8192 : Int) < ((bt src).size : Int) := by omega
   clear h0
   go_wp2_with fail
   ((with_reducible refine HWK.out.mono ?_); rintro e w3 ⟨rfl, hb⟩)
   have HB := qh (HB.out.trans (hb.mono HB.out.size))
   clear hb
   go_wp2
   go_ret
   exact ⟨rfl, HB.out⟩
 ·have hl0 : 3 ≤ L.length := by omega
  have x0 : ¬ (L.length : Int) < 3 := by omega
  have x0b : decide ((L.length : Int) < 3) = false := decide_eq_false x0
  have x3 : ¬ (8192 : Int) < ((bt src).size : Int) := by omega
  obtain ⟨x, hw, hn⟩ := HW.out (L.length + 2) (fun e => by rw [e] at hl0; simp at hl0) (by omega)
  clear hL HW h0
  have HWh := qh hw
  have HN := qh hn
  clear hw hn
  obtain ⟨ad, rfl, had, hcell⟩ := HR.out.reads.2 (by omega)
  have HCL := qh hcell
  clear hcell
  go_wp2_with (at_builtin; refine wpList_row rfl _ _ rfl w2.heap.size (L := []) (M := L) (ad := ad) (c := c) rfl (RowO.nil _ _) (by simp) (by simp [Act.eval, Act.put]) HCL.out (by simp; omega) ?_; intro v3 w3 ho3 hg3 hb3)
  obtain ⟨g, cap, rfl, hBg, hgw, hfz, hrow⟩ := ho3.form (L := L) (by omega) (by omega)
  have hmL : L.length - 2 < L.length := by omega
  obtain ⟨gx, ox, e, _, p0, p1, p2, p3, p4⟩ := RowAt.spot hrow hmL
  obtain ⟨rfl, rfl⟩ : g = gx ∧ 0 = ox := (by injection e with e; injection e with e1 e2; exact ⟨e1, e2⟩)
  rw [Nat.zero_add] at p0 p1 p2 p3 p4
  generalize ht : L[L.length - 2] = tq at *
  have n0 := World.new_ne w3 _ p0
  have n1 := World.new_ne w3 _ p1
  have n2 := World.new_ne w3 _ p2
  have n3 := World.new_ne w3 _ p3
  have n4 := World.new_ne w3 _ p4
  have z0 := hfz ((L.length - 2) * 5)
  have z1 := hfz ((L.length - 2) * 5 + 1)
  have z2 := hfz ((L.length - 2) * 5 + 2)
  have z3 := hfz ((L.length - 2) * 5 + 3)
  have z4 := hfz ((L.length - 2) * 5 + 4)
  have HROW := qh hrow
  have HB3 := qh hb3
  clear ho3 hg3 hb3 hrow e
  go_wp2_with fail
  have hnm := row_named HROW.out name hmL (.cells #[.int .u8 tq.1.kind, .complex .f64 (fl tq.2.1.1) (fl tq.2.1.2), .complex .f64 (fl tq.2.2.1) (fl tq.2.2.2), .string name, .int .i64 tq.1.n] 40) (B := w2.heap.size) hBg
  have DP := fun (h : RowAt ((namedW w3 g ((L.length - 2) * 5) tq name).alloc (.cells #[.int .u8 tq.1.kind, .complex .f64 (fl tq.2.1.1) (fl tq.2.1.2), .complex .f64 (fl tq.2.2.1) (fl tq.2.2.2), .string name, .int .i64 tq.1.n] 40)) (some ⟨g, 0, none⟩) _) => parse_named (name := name) HWh.out HN.out hmL h cap
  rw [ht] at hnm DP
  obtain ⟨hrow4, hb4⟩ := hnm
  generalize World.alloc (namedW w3 g ((L.length - 2) * 5) tq name) (.cells #[.int .u8 tq.1.kind, .complex .f64 (fl tq.2.1.1) (fl tq.2.1.2), .complex .f64 (fl tq.2.2.1) (fl tq.2.2.2), .string name, .int .i64 tq.1.n] 40) = w4 at *
  have DP := qh (DP hrow4)
  have hb4 : Below w2.heap.size w2 w4 := HB3.out.trans hb4
  have HB := qh (HB.out.trans (hb4.mono HB.out.size))
  have HE := qh (HE.out.below nl hb4)
  have HR := qh (HR.out.below hb4)
  clear hb4 hrow4 HB3 HROW p0 p1 p2 p3 p4 n0 n1 n2 n3 n4 z0 z1 z2 z3 z4 hfz ht HCL
  ((with_reducible refine DP.out.mono ?_); rintro e w5 ⟨v, j, f, rfl, hcs, hb⟩)
  have HB := qh (HB.out.trans (hb.mono HB.out.size))
  have HE := qh (HE.out.below nl hb)
  have HR := qh (HR.out.below hb)
  obtain ⟨T, hT, hTk, dT⟩ := beh_row w5
  have DT := qh dT
  have HTK := qh hTk
  clear hb DP dT hTk
  rcases hcs with ⟨hne, rfl, rfl⟩ | ⟨rfl, rfl⟩
  ·have hne2 := name_ne hne
   go_wp2_with fail
   ((with_reducible refine DT.out.mono ?_); rintro e w6 ⟨AT, ct, rfl, hct, hrt, hb⟩)
   have HB := qh (HB.out.trans (hb.mono HB.out.size))
   have HE := qh (HE.out.below nl hb)
   have HR := qh (HR.out.below hb)
   have e3 : Int.tmod (beh : Int) (T.length : Int) = ((beh % T.length : Nat) : Int) := Int.ofNat_tmod _ _
   have ho : beh % T.length < T.length := Nat.mod_lt _ (by omega)
   have HBH := qh (HWh.out.behind _ (HTK.out _ (List.getElem_mem ho)))
   generalize beh % T.length = o at *
   obtain ⟨gb, go, rfl, hgb, p0, p1, p2, p3, p4⟩ := RowAt.spot hrt ho
   generalize T[o] = tr at *
   have xT : (0 : Int) < (T.length : Int) := by omega
   have hTn : T ≠ [] := fun e => by rw [e] at ho; simp at ho
   have hwr : IntKind.i64.wrap (beh : Int) = (beh : Int) := IntWalk.i64_in _ (by omega)
   have xo3 : (0 : Int) ≤ (o : Int) := by omega
   have xo4 : (o : Int) < (T.length : Int) := by omega
   clear hb DT hrt hT
   have HNW := qh (fun (w' : World) (hb : Below w6.heap.size w6 w') => news_all HR.out hb)
   go_wp2_with fail
   go_region_law (first
    | (refine step_row (by rfl) _ _ (by rfl) w6.heap.size (L := []) (M := L) (ad := ad) (c := c) (by rfl) (RowO.nil _ _) (by simp) (by simp [Act.eval, Act.put]) (HNW.out _ (by repeat first | exact Below.refl _ _ | apply Below.drew | (refine Below.alloc ?_ (by simp) _))) (by simp; omega) ?_; intro v1 w7 ho1 hg1 hb0; have hb1 : Below w6.heap.size w6 w7 := Below.trans (by repeat first | exact Below.refl _ _ | apply Below.drew | (refine Below.alloc ?_ (by simp) _)) hb0; have hz6 : w6.heap.size ≤ w7.heap.size := hb1.size; clear hb0; have q0 := (hb1.cell (p := ⟨gb, go + o * 5, none⟩) hgb).trans p0; have q1 := (hb1.cell (p := ⟨gb, go + o * 5 + 1, none⟩) hgb).trans p1; have q2 := (hb1.cell (p := ⟨gb, go + o * 5 + 2, none⟩) hgb).trans p2; have q3 := (hb1.cell (p := ⟨gb, go + o * 5 + 3, none⟩) hgb).trans p3; have q4 := (hb1.cell (p := ⟨gb, go + o * 5 + 4, none⟩) hgb).trans p4)
    | (refine step_row (by rfl) _ _ (by rfl) w6.heap.size (L := L) (M := [tr]) (by rfl) (by first | exact ho1 | exact World.ownsRow.alloc ho1 _) (by first | exact hz6 | (simp; omega)) (by rfl) (by first | exact World.news_of_block (heap_alloc_new _ _) | exact World.news_of_block ((hg1.block _ (by simp) (by simp [Value.ownBlock])).trans (heap_alloc_new _ _))) (by simp; omega) ?_; intro v2 w8 ho2 hg2 hb2; have hb7 : Below w6.heap.size w6 w8 := hb1.trans (Below.trans (by repeat first | exact Below.refl _ _ | apply Below.drew | (refine Below.alloc ?_ (by first | exact hz6 | (simp; omega)) _)) hb2); obtain ⟨A7, c7, rfl, hr7⟩ := ho2.at_ (by simp; omega); have HB7 := qh (HB.out.trans (hb7.mono HB.out.size)); have HE7 := qh (HE.out.below nl hb7); have DO := qh (parse_err hr7 (g := L.length + 2) (by simp) HBH.out c7); rw [List.length_append, List.length_singleton] at DO; clear hb7 hb1 hb2 hg1 hg2 ho1 ho2 hr7 p0 p1 p2 p3 p4 q0 q1 q2 q3 q4)
    | (go_simp; go_at_call 10; (with_reducible refine DO.out.mono ?_); rintro e w9 ⟨rfl, hb9⟩))
   all_goals
    have HB8 := qh (HB7.out.trans (hb9.mono HB7.out.size))
    have HWK := qh (Un.works_all (HE7.out.below nl hb9))
    clear hb9 DO
    go_wp2_with fail
    ((with_reducible refine HWK.out.mono ?_); rintro e wa ⟨rfl, hb⟩)
    have HB9 := qh (HB8.out.trans (hb.mono HB8.out.size))
    clear hb
    go_wp2
    go_ret
    exact ⟨rfl, HB9.out⟩
  ·go_wp2_with fail
   ((with_reducible refine DT.out.mono ?_); rintro e w6 ⟨AT, ct, rfl, hct, hrt, hb⟩)
   have HB := qh (HB.out.trans (hb.mono HB.out.size))
   have HE := qh (HE.out.below nl hb)
   have HR := qh (HR.out.below hb)
   have e3 : Int.tmod (beh : Int) (T.length : Int) = ((beh % T.length : Nat) : Int) := Int.ofNat_tmod _ _
   have ho : beh % T.length < T.length := Nat.mod_lt _ (by omega)
   have HBH := qh (HWh.out.behind _ (HTK.out _ (List.getElem_mem ho)))
   generalize beh % T.length = o at *
   obtain ⟨gb, go, rfl, hgb, p0, p1, p2, p3, p4⟩ := RowAt.spot hrt ho
   generalize T[o] = tr at *
   have xT : (0 : Int) < (T.length : Int) := by omega
   have hTn : T ≠ [] := fun e => by rw [e] at ho; simp at ho
   have hwr : IntKind.i64.wrap (beh : Int) = (beh : Int) := IntWalk.i64_in _ (by omega)
   have xo3 : (0 : Int) ≤ (o : Int) := by omega
   have xo4 : (o : Int) < (T.length : Int) := by omega
   clear hb DT hrt hT
   have HNW := qh (fun (w' : World) (hb : Below w6.heap.size w6 w') => news_all HR.out hb)
   go_wp2_with fail
   go_region_law (first
    | (refine step_row (by rfl) _ _ (by rfl) w6.heap.size (L := []) (M := L) (ad := ad) (c := c) (by rfl) (RowO.nil _ _) (by simp) (by simp [Act.eval, Act.put]) (HNW.out _ (by repeat first | exact Below.refl _ _ | apply Below.drew | (refine Below.alloc ?_ (by simp) _))) (by simp; omega) ?_; intro v1 w7 ho1 hg1 hb0; have hb1 : Below w6.heap.size w6 w7 := Below.trans (by repeat first | exact Below.refl _ _ | apply Below.drew | (refine Below.alloc ?_ (by simp) _)) hb0; have hz6 : w6.heap.size ≤ w7.heap.size := hb1.size; clear hb0; have q0 := (hb1.cell (p := ⟨gb, go + o * 5, none⟩) hgb).trans p0; have q1 := (hb1.cell (p := ⟨gb, go + o * 5 + 1, none⟩) hgb).trans p1; have q2 := (hb1.cell (p := ⟨gb, go + o * 5 + 2, none⟩) hgb).trans p2; have q3 := (hb1.cell (p := ⟨gb, go + o * 5 + 3, none⟩) hgb).trans p3; have q4 := (hb1.cell (p := ⟨gb, go + o * 5 + 4, none⟩) hgb).trans p4)
    | (refine step_row (by rfl) _ _ (by rfl) w6.heap.size (L := L) (M := [tr]) (by rfl) (by first | exact ho1 | exact World.ownsRow.alloc ho1 _) (by first | exact hz6 | (simp; omega)) (by rfl) (by first | exact World.news_of_block (heap_alloc_new _ _) | exact World.news_of_block ((hg1.block _ (by simp) (by simp [Value.ownBlock])).trans (heap_alloc_new _ _))) (by simp; omega) ?_; intro v2 w8 ho2 hg2 hb2; have hb7 : Below w6.heap.size w6 w8 := hb1.trans (Below.trans (by repeat first | exact Below.refl _ _ | apply Below.drew | (refine Below.alloc ?_ (by first | exact hz6 | (simp; omega)) _)) hb2); obtain ⟨A7, c7, rfl, hr7⟩ := ho2.at_ (by simp; omega); have HB7 := qh (HB.out.trans (hb7.mono HB.out.size)); have HE7 := qh (HE.out.below nl hb7); have DO := qh (parse_err hr7 (g := L.length + 2) (by simp) HBH.out c7); rw [List.length_append, List.length_singleton] at DO; clear hb7 hb1 hb2 hg1 hg2 ho1 ho2 hr7 p0 p1 p2 p3 p4 q0 q1 q2 q3 q4)
    | (go_simp; go_at_call 10; (with_reducible refine DO.out.mono ?_); rintro e w9 ⟨rfl, hb9⟩))
   all_goals
    have HB8 := qh (HB7.out.trans (hb9.mono HB7.out.size))
    have HWK := qh (Un.works_all (HE7.out.below nl hb9))
    clear hb9 DO
    go_wp2_with fail
    ((with_reducible refine HWK.out.mono ?_); rintro e wa ⟨rfl, hb⟩)
    have HB9 := qh (HB8.out.trans (hb.mono HB8.out.size))
    clear hb
    go_wp2
    go_ret
    exact ⟨rfl, HB9.out⟩
end
end Rn
namespace St
open Ex
open Go.RowKit Go.ChangeShapes Go.WideShapes Go.Deep
section
variable {H : Type} {enc : TypeId × Value → H} {P : Program} {w : World} {base : Nat} {spare : Nat → Bool} {held : Bool}
theorem open_slice_fields {t e : TypeId} {fs : Array Field} {fuel : Nat} {cs : List Value} {x : DataW H × List MemPlace} (ht : P.underlying t = some (.slice e)) (he : P.underlying e = some (.struct fs))
 (hone : oneCellFields P fs = true) (hC : P.cellsOf e = fs.size) (h : DataW.trod enc P w base spare held fuel t cs = some x) :
 (cs = [.slice none 0 0] ∧ x = (.nil, [])) ∨
 ∃ (a : Addr) (len cap m : Nat) (D : Nat → DataW H) (Pl : Nat → List MemPlace), cs = [.slice (some a) len cap] ∧ base ≤ a.block ∧ len ≤ cap ∧ cap ≤ maxLen ∧ m = (if spare a.block then cap else len) ∧
  x = (.slice ((List.range len).map D) ((List.range (m - len)).map fun j => D (len + j)), MemPlace.row a (m * fs.size) ++ (List.range m).flatMap Pl) ∧
  ∀ i, i < m → ∃ (ys : List (DataW H × List MemPlace)) (n : Nat), D i = .agg (ys.map (·.1)) ∧ Pl i = ys.flatMap (·.2) ∧ ys.length = fs.size ∧
   ∀ (j : Nat) (f : Field), fs[j]? = some f → ∃ (v : Value) (y : DataW H × List MemPlace), w.cell? (a.add (i * fs.size + j)) = some v ∧ ys[j]? = some y ∧ DataW.trod enc P w base spare held n f.type [v] = some y := by
 rcases open_slice ht h with h0 | ⟨a, len, cap, m, n, D, Pl, hcs, hb, hl, hm, hmm, hx, hi⟩
 ·exact .inl h0
 ·refine .inr ⟨a, len, cap, m, D, Pl, hcs, hb, hl, hm, hmm, by rw [hC] at hx; exact hx, fun i him => ?_⟩
  obtain ⟨cs', hc, ht'⟩ := hi i him
  rw [hC] at hc
  obtain ⟨ys, n', hn', hy, hlen, hyl, hf⟩ := DataW.trod_struct he ht'
  obtain ⟨_, hcl, hat⟩ := World.cells?_some hc
  simp only [Prod.mk.injEq] at hy
  refine ⟨ys, n', hy.1, hy.2, hyl, fun j f hj => ?_⟩
  obtain ⟨ho, hk⟩ := hone_of hone j f hj
  have hjl : j < fs.size := (Array.getElem?_eq_some_iff.1 hj).1
  have hcell := hat j hjl
  have hv : cs'[j]? = some (cs'[j]'(by omega)) := List.getElem?_eq_getElem (by omega)
  have h1 := hf j f hj
  rw [ho, hk] at h1
  have hone' : (cs'.drop j).take 1 = [cs'[j]'(by omega)] := by
   rw [List.drop_eq_getElem_cons (by omega)]
   rfl
  rw [hone'] at h1
  have hys : ys[j]? = some (ys[j]'(by omega)) := List.getElem?_eq_getElem (by omega)
  refine ⟨_, _, ?_, hys, h1.trans hys⟩
  rw [← Go.Deep.add_add, hcell, hv]
end
theorem cells95 : Tryz.prog.cellsOf 95 = 2 := by kernel_rfl
theorem oneSeed : ∃ fs, Tryz.prog.underlying 95 = some (.struct fs) ∧ oneCellFields Tryz.prog fs = true ∧ fs.size = 2 ∧ fs.toList.map (·.type) = [5, 26] := ⟨_, Tryz.underlying95, by kernel_rfl, by kernel_rfl, by kernel_rfl⟩
theorem seed_at (p : Nat × Nat) (r : Nat) (h : r < 2) : (seedV p)[r]? = some (match r with | 0 => .int .u8 p.1 | _ => .int .u16 p.2) := by
 match r, h with
 | 0, _ => rfl
 | 1, _ => rfl
theorem seedsV_at (l : List (Nat × Nat)) (i r : Nat) (hi : i < l.length) (hr : r < 2) : (seedsV l)[i * 2 + r]? = (seedV l[i])[r]? := by
 rw [← List.getElem?_drop, ← seedsV_drop, List.drop_eq_getElem_cons hi]
 simp only [seedsV, List.flatMap_cons]
 rw [List.getElem?_append_left (by simp [seedV]; omega)]
theorem open_seeds1 {H : Type} {enc : TypeId × Value → H} {W : World} {v : Value} {fuel : Nat} {x : DataW H × List MemPlace} (hf : DataW.trod enc Tryz.prog W 0 (fun _ => true) true fuel 77 [v] = some x) :
 ∃ A c l, v = .slice A l.length c ∧ Seeds W A c l := by
 obtain ⟨fs, hu, hone, hsz, hty⟩ := oneSeed
 rcases open_slice_fields Tryz.underlying77 hu hone (by rw [hsz]; exact cells95) hf with ⟨h1, h2⟩ | ⟨a, len, cap, m, D, Pl, h1, _, h3, h4, h5, h6, h7⟩
 ·have e : v = .slice none 0 0 := by simpa using h1
  exact ⟨none, 0, [], by simpa using e, ⟨⟨by simp [seedsV], fun h => absurd h (by simp)⟩, by simp, by omega, fun p hp => by simp at hp⟩⟩
 ·have e : v = .slice (some a) len cap := by simpa using h1
  rw [if_pos rfl] at h5
  subst h5
  have hex : ∀ i, ∃ q : Nat × Nat, i < len → (∀ r, r < 2 → W.cell? (a.add (i * 2 + r)) = (seedV q)[r]?) ∧ q.1 < 256 ∧ q.2 ≤ 65535 := by
   intro i
   by_cases hi : i < len
   ·obtain ⟨ys, n, g1, _, g3, g4⟩ := h7 i (by omega)
    rw [hsz] at g4
    have ft : ∀ j (hj : j < 2), ∃ f, fs[j]? = some f ∧ [5, 26][j]? = some f.type := by
     intro j hj
     have hj' : j < fs.size := by omega
     refine ⟨fs[j], Array.getElem?_eq_getElem hj', ?_⟩
     rw [← hty]
     simp [List.getElem?_map, hj']
    have get : ∀ j (hj : j < 2), ∃ v y t, W.cell? (a.add (i * 2 + j)) = some v ∧ ys[j]? = some y ∧ [5, 26][j]? = some t ∧ DataW.trod enc Tryz.prog W 0 (fun _ => true) true n t [v] = some y := by
     intro j hj
     obtain ⟨f, f1, f2⟩ := ft j hj
     obtain ⟨v, y, q1, q2, q3⟩ := g4 j f f1
     exact ⟨v, y, f.type, q1, q2, f2, q3⟩
    obtain ⟨v0, y0, t0, c0, _, e0, k0⟩ := get 0 (by omega)
    obtain ⟨v1, y1, t1, c1, _, e1, k1⟩ := get 1 (by omega)
    simp only [List.getElem?_cons_zero, List.getElem?_cons_succ, Option.some.injEq] at e0 e1
    subst e0 e1
    obtain ⟨n0, r0, _, w0⟩ := DataW.trod_int Tryz.underlying5 k0
    obtain ⟨n1, r1, _, w1⟩ := DataW.trod_int Tryz.underlying26 k1
    simp only [List.cons.injEq, and_true] at r0 r1
    subst r0 r1
    have u0 := bounds_u8 w0
    have u1 := bounds_u16 w1
    refine ⟨(n0.toNat, n1.toNat), fun _ => ⟨fun r hr => ?_, by simp only; omega, by simp only; omega⟩⟩
    rw [seed_at _ _ hr]
    match r, hr with
    | 0, _ => rw [c0]; simp; omega
    | 1, _ => rw [c1]; simp; omega
   ·exact ⟨(0, 0), fun h => absurd h hi⟩
  obtain ⟨f, hfq⟩ : ∃ f : Nat → Nat × Nat, ∀ i, i < len → (∀ r, r < 2 → W.cell? (a.add (i * 2 + r)) = (seedV (f i))[r]?) ∧ (f i).1 < 256 ∧ (f i).2 ≤ 65535 :=
   ⟨fun i => Classical.choose (hex i), fun i hi => Classical.choose_spec (hex i) hi⟩
  have hll : ((List.range len).map f).length = len := by simp
  refine ⟨some a, m, (List.range len).map f, by rw [e, hll], ⟨⟨by rw [seedsV_len], fun h0 => ?_⟩, by rw [hll]; exact h3, by unfold maxLen at h4; omega, ?_⟩⟩
  ·rw [hll] at h0
   refine ⟨a, rfl, ?_, fun j u hu => ?_⟩
   ·have h00 := (hfq 0 h0).1 0 (by omega)
    rw [seed_at _ _ (by omega)] at h00
    have := World.block_lt_of_cell? W _ h00
    rwa [block_of_add] at this
   ·have hj : j < len * 2 := by
     have := (List.getElem?_eq_some_iff.1 hu).1
     rw [seedsV_len, hll] at this; exact this
    have ej : j = j / 2 * 2 + j % 2 := by omega
    have hq : j / 2 < ((List.range len).map f).length := by rw [hll]; omega
    rw [ej, seedsV_at _ _ _ hq (by omega)] at hu
    rw [ej, (hfq (j / 2) (by omega)).1 (j % 2) (by omega), ← hu]
    simp
  ·intro q hq
   obtain ⟨i, hi, rfl⟩ := List.mem_map.1 hq
   exact (hfq i (by simpa using hi)).2
theorem cells79 : Tryz.prog.cellsOf 79 = 2 := by kernel_rfl
theorem onePart : ∃ fs, Tryz.prog.underlying 79 = some (.struct fs) ∧ oneCellFields Tryz.prog fs = true ∧ fs.size = 2 ∧ fs.toList.map (·.type) = [5, 77] := ⟨_, Tryz.underlying79, by kernel_rfl, by kernel_rfl, by kernel_rfl⟩
theorem prt_at (p : Prt × Value) (r : Nat) (h : r < 2) : (prtV p)[r]? = some (match r with | 0 => .int .u8 p.1.1 | _ => p.2) := by
 match r, h with
 | 0, _ => rfl
 | 1, _ => rfl
theorem prtV_at (l : List (Prt × Value)) (i r : Nat) (hi : i < l.length) (hr : r < 2) : (l.flatMap prtV)[i * 2 + r]? = (prtV l[i])[r]? := by
 rw [← List.getElem?_drop, ← prtV_drop, List.drop_eq_getElem_cons hi]
 simp only [List.flatMap_cons]
 rw [List.getElem?_append_left (by simp [prtV]; omega)]
theorem open_parts1 {H : Type} {enc : TypeId × Value → H} {W : World} {v : Value} {fuel : Nat} {x : DataW H × List MemPlace} (hf : DataW.trod enc Tryz.prog W 0 (fun _ => true) true fuel 23 [v] = some x) :
 ∃ A c q, v = .slice A q.length c ∧ Parts W A c q := by
 obtain ⟨fs, hu, hone, hsz, hty⟩ := onePart
 rcases open_slice_fields Tryz.underlying23 hu hone (by rw [hsz]; exact cells79) hf with ⟨h1, h2⟩ | ⟨a, len, cap, m, D, Pl, h1, _, h3, h4, h5, h6, h7⟩
 ·have e : v = .slice none 0 0 := by simpa using h1
  exact ⟨none, 0, [], by simpa using e, ⟨⟨by simp, fun h => absurd h (by simp)⟩, by simp, by omega, fun p hp => by simp at hp⟩⟩
 ·have e : v = .slice (some a) len cap := by simpa using h1
  rw [if_pos rfl] at h5
  subst h5
  have hex : ∀ i, ∃ q : Prt × Value, i < len → (∀ r, r < 2 → W.cell? (a.add (i * 2 + r)) = (prtV q)[r]?) ∧ q.1.1 < 256 ∧ ∃ A' c', q.2 = .slice A' q.1.2.length c' ∧ Seeds W A' c' q.1.2 := by
   intro i
   by_cases hi : i < len
   ·obtain ⟨ys, n, g1, _, g3, g4⟩ := h7 i (by omega)
    rw [hsz] at g4
    have ft : ∀ j (hj : j < 2), ∃ f, fs[j]? = some f ∧ [5, 77][j]? = some f.type := by
     intro j hj
     have hj' : j < fs.size := by omega
     refine ⟨fs[j], Array.getElem?_eq_getElem hj', ?_⟩
     rw [← hty]
     simp [List.getElem?_map, hj']
    have get : ∀ j (hj : j < 2), ∃ v y t, W.cell? (a.add (i * 2 + j)) = some v ∧ ys[j]? = some y ∧ [5, 77][j]? = some t ∧ DataW.trod enc Tryz.prog W 0 (fun _ => true) true n t [v] = some y := by
     intro j hj
     obtain ⟨f, f1, f2⟩ := ft j hj
     obtain ⟨v, y, q1, q2, q3⟩ := g4 j f f1
     exact ⟨v, y, f.type, q1, q2, f2, q3⟩
    obtain ⟨v0, y0, t0, c0, _, e0, k0⟩ := get 0 (by omega)
    obtain ⟨v1, y1, t1, c1, _, e1, k1⟩ := get 1 (by omega)
    simp only [List.getElem?_cons_zero, List.getElem?_cons_succ, Option.some.injEq] at e0 e1
    subst e0 e1
    obtain ⟨n0, r0, _, w0⟩ := DataW.trod_int Tryz.underlying5 k0
    simp only [List.cons.injEq, and_true] at r0
    subst r0
    have u0 := bounds_u8 w0
    obtain ⟨A', c', l', rfl, hS⟩ := open_seeds1 k1
    refine ⟨((n0.toNat, l'), .slice A' l'.length c'), fun _ => ⟨fun r hr => ?_, by simp only; omega, A', c', rfl, hS⟩⟩
    rw [prt_at _ _ hr]
    match r, hr with
    | 0, _ => rw [c0]; simp; omega
    | 1, _ => rw [c1]; rfl
   ·exact ⟨((0, []), .slice none 0 0), fun h => absurd h hi⟩
  obtain ⟨f, hfq⟩ : ∃ f : Nat → Prt × Value, ∀ i, i < len → (∀ r, r < 2 → W.cell? (a.add (i * 2 + r)) = (prtV (f i))[r]?) ∧ (f i).1.1 < 256 ∧ ∃ A' c', (f i).2 = .slice A' (f i).1.2.length c' ∧ Seeds W A' c' (f i).1.2 :=
   ⟨fun i => Classical.choose (hex i), fun i hi => Classical.choose_spec (hex i) hi⟩
  have hll : ((List.range len).map f).length = len := by simp
  refine ⟨some a, m, (List.range len).map f, by rw [e, hll], ⟨⟨by rw [prtV_len], fun h0 => ?_⟩, by rw [hll]; exact h3, by unfold maxLen at h4; omega, ?_⟩⟩
  ·rw [hll] at h0
   refine ⟨a, rfl, ?_, fun j u hu => ?_⟩
   ·have h00 := (hfq 0 h0).1 0 (by omega)
    rw [prt_at _ _ (by omega)] at h00
    have := World.block_lt_of_cell? W _ h00
    rwa [block_of_add] at this
   ·have hj : j < len * 2 := by
     have := (List.getElem?_eq_some_iff.1 hu).1
     rw [prtV_len, hll] at this; exact this
    have ej : j = j / 2 * 2 + j % 2 := by omega
    have hq : j / 2 < ((List.range len).map f).length := by rw [hll]; omega
    rw [ej, prtV_at _ _ _ hq (by omega)] at hu
    rw [ej, (hfq (j / 2) (by omega)).1 (j % 2) (by omega), ← hu]
    simp
  ·intro q hq
   obtain ⟨i, hi, rfl⟩ := List.mem_map.1 hq
   exact (hfq i (by simpa using hi)).2
end St
namespace Rn
open Go.RowKit Go.ChangeShapes Go.WideShapes Go.Deep
open St (Prt Parts)
theorem bnd_u8 {n : Int} (h : (Lit.int .u8 n).wf = true) : 0 ≤ n ∧ n < 256 := by
 have := bounds_u8 h
 omega
theorem open_bytes1 {H : Type} {enc : TypeId × Value → H} {W : World} {v : Value} {fuel : Nat} {x : DataW H × List MemPlace} (hf : DataW.trod enc Tryz.prog W 0 (fun _ => true) true fuel 22 [v] = some x) :
 ∃ A c l, v = .slice A l.length c ∧ Bys W A c l := by
 rcases open_ints Tryz.underlying22 Tryz.underlying5 (by kernel_rfl) hf with ⟨hcs, _⟩ | ⟨a, n, c, zs, hcs, _, hl, hm, hz, _, hcell, hwz⟩
 ·have e : v = .slice none 0 0 := by simpa using hcs
  exact ⟨none, 0, [], by simpa using e, ⟨⟨by simp [byV], fun h => absurd h (by simp)⟩, by simp, by omega, fun n hn => by simp at hn⟩⟩
 ·have e : v = .slice (some a) n c := by simpa using hcs
  rw [if_pos rfl] at hz
  have hbn : ∀ z ∈ zs, 0 ≤ z ∧ z < 256 := fun z hz => bnd_u8 (hwz z hz)
  have hll : ((zs.take n).map Int.toNat).length = n := by rw [List.length_map, List.length_take]; omega
  refine ⟨some a, c, (zs.take n).map Int.toNat, by rw [e, hll], ⟨⟨by simp [byV], fun h0 => ?_⟩, by rw [hll]; exact hl, by unfold maxLen at hm; omega, ?_⟩⟩
  ·rw [hll] at h0
   refine ⟨a, rfl, ?_, fun j u hu => ?_⟩
   ·have := World.block_lt_of_cell? W _ (hcell 0 (by omega))
    rwa [block_of_add] at this
   ·have hj : j < n := by
     have := (List.getElem?_eq_some_iff.1 hu).1
     unfold byV at this
     rw [List.length_map, hll] at this; exact this
    have hjz : j < zs.length := by omega
    rw [hcell j hjz, ← hu]
    unfold byV
    rw [List.getElem?_map, List.getElem?_map, List.getElem?_take, if_pos hj, List.getElem?_eq_getElem hjz, List.getD_eq_getElem?_getD, List.getElem?_eq_getElem hjz]
    have := hbn zs[j] (List.getElem_mem _)
    simp only [Option.map_some, Option.getD_some]
    rw [Int.toNat_of_nonneg this.1]
  ·intro x hx
   obtain ⟨z, hz2, rfl⟩ := List.mem_map.1 hx
   have := hbn z (List.mem_of_mem_take hz2)
   omega
theorem oneMade : ∃ fs, Tryz.prog.underlying 25 = some (.struct fs) ∧ oneCellFields Tryz.prog fs = true ∧ fs.size = 3 ∧ fs.toList.map (·.type) = [5, 22, 23] := ⟨_, Tryz.underlying25, by kernel_rfl, by kernel_rfl, by kernel_rfl⟩
theorem cells25 : Tryz.prog.cellsOf 25 = 3 := by kernel_rfl
theorem open_made {H : Type} {enc : TypeId × Value → H} {W : World} {v : Value} {d : DataW H} {p : List MemPlace} {base : Nat} (h : DataW.Trod enc Tryz.prog W 0 (fun _ => true) true 25 v d p) (hval : Value.okWide Tryz.prog W .any base 25 v) :
 ∃ k A1 l c1 A2 q c2, v = .agg (madeV k A1 l.length c1 A2 q.length c2) ∧ k < 256 ∧ Bys W A1 c1 l ∧ Parts W A2 c2 q := by
 obtain ⟨fs, hu, hone, hsz, hty⟩ := oneMade
 obtain ⟨cs, rfl, hcs⟩ := okWide_struct hu hval
 rw [cells25] at hcs
 obtain ⟨fuel, hf⟩ := h
 obtain ⟨ys, n, _, _, _, hys, hat⟩ := DataW.trod_struct hu hf
 obtain ⟨v0, v1, v2, rfl⟩ : ∃ v0 v1 v2, cs = #[v0, v1, v2] := by
  refine ⟨cs[0]'(by omega), cs[1]'(by omega), cs[2]'(by omega), ?_⟩
  apply Array.ext
  ·exact hcs
  ·intro i h1 h2
   rcases (show i = 0 ∨ i = 1 ∨ i = 2 by omega) with rfl | rfl | rfl <;> rfl
 have hc : (Value.agg #[v0, v1, v2]).cells.toList = [v0, v1, v2] := rfl
 have get : ∀ j (hj : j < 3), ∃ t, [5, 22, 23][j]? = some t ∧ DataW.trod enc Tryz.prog W 0 (fun _ => true) true n t (([v0, v1, v2].drop j).take 1) = ys[j]? ∧ j < ys.length := by
  intro j hj
  have hj' : j < fs.size := by omega
  have hfj : fs[j]? = some fs[j] := Array.getElem?_eq_getElem hj'
  obtain ⟨ho, hk⟩ := hone_of hone j _ hfj
  have := hat j _ hfj
  rw [ho, hk, hc] at this
  refine ⟨fs[j].type, ?_, this, by omega⟩
  rw [← hty]
  simp [List.getElem?_map, hj']
 obtain ⟨t0, e0, k0, y0⟩ := get 0 (by omega)
 obtain ⟨t1, e1, k1, y1⟩ := get 1 (by omega)
 obtain ⟨t2, e2, k2, y2⟩ := get 2 (by omega)
 simp only [List.getElem?_cons_zero, List.getElem?_cons_succ, Option.some.injEq] at e0 e1 e2
 subst e0 e1 e2
 rw [List.getElem?_eq_getElem y0] at k0
 rw [List.getElem?_eq_getElem y1] at k1
 rw [List.getElem?_eq_getElem y2] at k2
 obtain ⟨n0, r0, _, w0⟩ := DataW.trod_int Tryz.underlying5 k0
 obtain rfl : v0 = .int .u8 n0 := by simpa using r0
 obtain ⟨A1, c1, l, rfl, h1⟩ := open_bytes1 k1
 obtain ⟨A2, c2, q, rfl, h2⟩ := St.open_parts1 k2
 have hb := bnd_u8 w0
 refine ⟨n0.toNat, A1, l, c1, A2, q, c2, ?_, by omega, h1, h2⟩
 rw [show (madeV n0.toNat A1 l.length c1 A2 q.length c2) = #[.int .u8 (n0.toNat : Int), .slice A1 l.length c1, .slice A2 q.length c2] from rfl, Int.toNat_of_nonneg hb.1]
end Rn
end Go.Proofs.YtkemhmfdooghkaaGreatDoor
