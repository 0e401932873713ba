import Derived.Test.YtkemhmfdooghkaaGreatDoorV38
import Derived.Test.YtkemhmfdooghkaaGreatDoorV44
set_option linter.unusedSimpArgs false
set_option linter.unusedVariables false
set_option maxRecDepth 100000
set_option maxHeartbeats 6400000
namespace Go.Proofs.YtkemhmfdooghkaaGreatDoor
namespace Un
open Go.RowKit
open Tr (Nd Fo RepS RepN Rep cellsN)
open Lx (Tk noTk Blk run_store_complexL TokAt scanL scanF flat scanEnd at_ lex EnvS)
open Fl
open Ex
open St (TkS)
attribute [local go_sem] run_store_complexL run_field1 run_field3
def rowT (s : List UInt8) (l : List Lx.Tok) : List PT := l.map fun x => (x.1, at_ s x.2.1, at_ s x.2.2)
theorem flat_rowT (s : List UInt8) (l : List Lx.Tok) : flatP (rowT s l) = flat s l := by
 unfold flatP rowT flat
 rw [List.flatMap_map]
 rfl
theorem rowT_len (s : List UInt8) (l : List Lx.Tok) : (rowT s l).length = l.length := List.length_map _
def ReadR (w : World) (L : List PT) (r : Except Nat (T1 × Nat)) (e : Ending) (w' : World) : Prop := match r with
 | .ok (x, _) => ∃ b, e = .returned (.tuple #[.pointer (some ⟨b, 0, none⟩), .complex .f64 0 0, .int .i64 0]) ∧ RepS (fun y => w.heap.size ≤ y) w' (.node x.1 x.2 .no) [.pointer (some ⟨b, 0, none⟩)] ∧ Below w.heap.size w w'
 | .error k => e = .returned (.tuple #[.pointer none, .complex .f64 (fl (tk L k).2.1.1) (fl (tk L k).2.1.2), .int .i64 60]) ∧ Below w.heap.size w w'
theorem row_pos {w : World} {A : Option Addr} {L : List PT} (h : RowAt w A L) {k : Nat} (hk : k < L.length) : ∃ g off, A = some ⟨g, off, none⟩ ∧ w.cell? ⟨g, off + k * 5 + 1, none⟩ = some (.complex .f64 (fl (tk L k).2.1.1) (fl (tk L k).2.1.2)) := by
 obtain ⟨⟨g, off, sp⟩, e, hlt, hc⟩ := h.reads.2 (by omega)
 have hl := flatP_len L
 have hget : ∀ m, m < L.length * 5 → ∃ u, (flatP L)[m]? = some u := fun m hm => ⟨(flatP L)[m]'(by omega), List.getElem?_eq_getElem (by omega)⟩
 have hs : sp = none := by
  obtain ⟨u, hu⟩ := hget 0 (by omega)
  have := World.cell?_spot (hc 0 u hu)
  simpa [Addr.add] using this
 subst hs
 refine ⟨g, off, e, ?_⟩
 have ht : tk L k = L[k] := by unfold tk; rw [List.getElem?_eq_getElem hk]; rfl
 have h1 := flatP_at L k 1 hk (by omega)
 rw [show (PT.vals L[k])[1]? = some (.complex .f64 (fl (tk L k).2.1.1) (fl (tk L k).2.1.2)) from by rw [ht]; rfl] at h1
 have := hc _ _ h1
 rw [show (⟨g, off, none⟩ : Addr).add (k * 5 + 1) = ⟨g, off + k * 5 + 1, none⟩ by unfold Addr.add; split <;> simp_all [Nat.add_assoc]] at this
 exact this
theorem Read_ok (s : ByteArray) {w : World} (E : EnvS w) {l : List Lx.Tok} (hl : scanL s.data.toList = .ok l) {r : Except Nat (T1 × Nat)} (hr : ∀ k, r = .error k → k < l.length)
 (HP : ∀ w A c, RowAt w A (rowT s.data.toList l) → Calls Tryz.prog 10 #[.slice A (rowT s.data.toList l).length c] w (ParU w r)) :
 Calls Tryz.prog 13 #[.string s] w (ReadR w (rowT s.data.toList l) r) := by
 have hll := Ex.scanL_len hl
 have hsz : s.data.toList.length = s.size := by simp
 have d1 := Lx.Scan_any s (by omega) E
 rw [hl] at d1
 have D1 := qh d1
 have hP := qh HP
 have HR := qh hr
 have hrl := rowT_len s.data.toList l
 have HFL := qh (flat_rowT s.data.toList l)
 clear d1 HP hr hl E
 go_enter Tryz.func13, Tryz.ntmps13
 go_wp2_with fail
 ((with_reducible refine D1.out.mono ?_); rintro e w1 ⟨g, cap, rfl, hown, hb⟩)
 have hlt := (hown.lt g rfl).2
 have HROW := qh (show RowAt w1 (some ⟨g, 0, none⟩) (rowT s.data.toList l) from ⟨by rw [HFL.out, hrl]; exact Reads.of_own hown, (fun ad e => by injection e with e; subst e; exact hlt), by omega⟩)
 have HB := qh hb
 clear hb hown D1 HFL
 cases r with
 | ok r =>
   obtain ⟨x, j⟩ := r
   have D2 := qh (hrl ▸ hP.out w1 _ cap HROW.out)
   clear hP
   go_wp2_with fail
   ((with_reducible refine D2.out.mono ?_); rintro e w2 ⟨b, rfl, hr, hb⟩)
   have HB2 := qh (HB.out.trans (hb.mono HB.out.size))
   have HX := qh (hr.more (S' := fun y => w.heap.size ≤ y) fun y hy _ => Nat.le_trans HB.out.size hy)
   clear hb hr D2
   go_wp2
   go_ret3
   exact ⟨b, rfl, HX.out, HB2.out⟩
 | error k =>
   have D2 := qh (hrl ▸ hP.out w1 _ cap HROW.out)
   have hk := HR.out k rfl
   clear hP HR
   go_wp2_with fail
   ((with_reducible refine D2.out.mono ?_); rintro e w2 ⟨rfl, hb⟩)
   have HB2 := qh (HB.out.trans (hb.mono HB.out.size))
   obtain ⟨g', off, e0, c1⟩ := row_pos (HROW.out.below hb) (k := k) (by omega)
   injection e0 with e0; injection e0 with e1 e2 e3
   subst e1 e2
   clear hb D2 e3
   simp only [Nat.zero_add] at c1
   have hIW : IntKind.i64.wrap ((l.length : Int) - 1) = (l.length : Int) - 1 := IntWalk.i64_in _ (by omega)
   have hk1 : (k : Int) ≤ (l.length : Int) - 1 := by omega
   have hk2 : ¬ ((l.length : Int) - 1 < (k : Int)) := by omega
   have hk3 : (k : Int) < (l.length : Int) := by omega
   have hk4 : ¬ ((k : Int) < 0) := by omega
   have hmin : (min (k : Int) ((l.length : Int) - 1)).toNat = k := by omega
   have hk5 : ¬ (min (k : Int) ((l.length : Int) - 1) < 0) := by omega
   have hk6 : min (k : Int) ((l.length : Int) - 1) < (l.length : Int) := by omega
   go_wp2
   go_region
   all_goals
    go_wp2
    go_ret3
    exact ⟨rfl, HB2.out.drew⟩
end Un
namespace Un
open Go.RowKit
open Tr (Nd Fo RepS RepN Rep cellsN)
open Lx (Tk noTk Blk TokAt scanL scanF flat scanEnd at_ lex EnvS)
open Fl
open Ex
open St (TkS)
open De (blockF defF)
theorem fin_parse {g : Nat} {L : List PT} {j : Nat} {bl : Par T1} {df : Par (List T1)} : parseG g bl df L j = finR L (unitG g bl df L j) := by
 unfold parseG bindP finR posP
 cases unitG g bl df L j with
 | error k => rfl
 | ok r =>
   obtain ⟨x, i⟩ := r
   show (if isFin (tk L i) = true then retP x else failP) L i = if isFin (tk L i) = true then .ok (x, i) else .error i
   split <;> rfl
theorem Parse_all {g : Nat} {w : World} {A : Option Addr} {L : List PT} (h : RowAt w A L) (hg : L.length < g) (c : Nat) : Calls Tryz.prog 10 #[.slice A L.length c] w (ParU w (parseU g L 0)) := by
 have hlen := h.len
 rw [show parseU g L 0 = finR L (unitG g (blockF g g) (defF g) L 0) from fin_parse]
 have hg2u := g2_unit (g := g) (De.g2_blockF (g := g) g) (De.g2_defF (g := g))
 refine Parse_any h c (fun x j hu => ?_) fun w0 br ht hw => ?_
 ·have := St.g2_max hg2u L 0
  rw [hu] at this
  simp only [posE] at this
  omega
 ·exact unit2_any ht hg (De.g2_blockF g) De.g2_defF (fun i hi wx hx => De.Block_any hx hg c hi) (fun i hi wx hx => De.Decls_any hx hg c hi) (fun i l j hi he => Nat.le_trans (De.def_len hi he) (by omega)) 0 (Nat.zero_le _) w0 hw
section
variable {L : List PT}
theorem g2_parse (g : Nat) : St.Good2 (parseU g) :=
 St.g2_bind (g2_unit (De.g2_blockF g) De.g2_defF) fun x => by
  refine ⟨fun L i => ?_, fun L i h => ?_, fun L m i him hm => ?_⟩
  ·unfold posP; dsimp only; split <;> exact Nat.le_refl _
  ·unfold posP; dsimp only; split <;> rfl
  ·unfold posP
   dsimp only
   rcases Nat.lt_or_ge i m with h1 | h1
   ·rw [tk_take h1]
    split
    ·exact .inl ⟨rfl, Nat.le_of_lt h1⟩
    ·exact .inl ⟨rfl, h1⟩
   ·obtain rfl : i = m := by omega
    refine .inr ⟨?_, ?_⟩
    ·split <;> rfl
    ·split <;> exact Nat.le_refl _
end
end Un
namespace Rn
open Tr (Nd Fo)
open Lx (Tk noTk lex scanL)
open Ex
open St (Good2 g2_max g2_le g2_at isNm isWd6 sEnd sSem)
section
variable {α β : Type}
structure Ta0 (p : Par α) : Prop where
 mono : ∀ {L i a j}, p L i = .ok (a, j) → i ≤ j
 bd : ∀ {L i a j}, i ≤ L.length → p L i = .ok (a, j) → j ≤ L.length
 down : ∀ {L i m a j}, i ≤ m → m ≤ L.length → p (L.take m) i = .ok (a, j) → p L i = .ok (a, j)
 up : ∀ {L i m a j}, i ≤ m → m ≤ L.length → p L i = .ok (a, j) → j ≤ m → p (L.take m) i = .ok (a, j)
structure Ta1 (p : Par α) : Prop extends Ta0 p where
 strict : ∀ {L i a j}, p L i = .ok (a, j) → i < j
theorem bind_inv {p : Par α} {q : α → Par β} {L : List PT} {i j : Nat} {b : β} (h : bindP p q L i = .ok (b, j)) : ∃ a j1, p L i = .ok (a, j1) ∧ q a L j1 = .ok (b, j) := by
 unfold bindP at h
 cases e : p L i with
 | error k => rw [e] at h; cases h
 | ok r => obtain ⟨a, j1⟩ := r; rw [e] at h; exact ⟨a, j1, rfl, h⟩
theorem bind_mk {p : Par α} {q : α → Par β} {L : List PT} {i j j1 : Nat} {a : α} {b : β} (h : p L i = .ok (a, j1)) (h2 : q a L j1 = .ok (b, j)) : bindP p q L i = .ok (b, j) := by
 unfold bindP; rw [h]; exact h2
theorem t0_ret (a : α) : Ta0 (retP a) := ⟨fun h => by cases h; exact Nat.le_refl _, fun hi h => by cases h; exact hi, fun _ _ h => by cases h; rfl, fun _ _ h _ => by cases h; rfl⟩
theorem t1_fail : Ta1 (failP (α := α)) := ⟨⟨fun h => (by cases h), fun _ h => (by cases h), fun _ _ h => (by cases h), fun _ _ h => (by cases h)⟩, fun h => (by cases h)⟩
theorem t1_tok {t : PT → Bool} {A : PT → Par α} {B : Par α} (t0 : t noPT = false) (hA : ∀ x, Ta0 (A x)) (hB : Ta1 B) : Ta1 (tokP t A B) := by
 have hs : ∀ {L i a j}, tokP t A B L i = .ok (a, j) → i < j := fun {L i a j} h => by
  unfold tokP at h
  split at h
  ·exact (hA _).mono h
  ·exact hB.strict h
 have hbd : ∀ {L i a j}, i ≤ L.length → tokP t A B L i = .ok (a, j) → j ≤ L.length := fun {L i a j} hi h => by
  unfold tokP at h
  split at h
  ·rename_i ht
   rcases Nat.lt_or_ge i L.length with h1 | h1
   ·exact (hA _).bd h1 h
   ·rw [tk_end h1, t0] at ht; cases ht
  ·exact hB.bd hi h
 refine ⟨⟨fun h => Nat.le_of_lt (hs h), hbd, fun {L i m a j} hi hm h => ?_, fun {L i m a j} hi hm h hj => ?_⟩, hs⟩
 ·have h1 := hs h
  have h2 := hbd (by rw [Ex.take_len hm]; exact hi) h
  rw [Ex.take_len hm] at h2
  have him : i < m := by omega
  unfold tokP at h ⊢
  rw [tk_take him] at h
  split at h
  ·rename_i ht; rw [if_pos ht]; exact (hA _).down him hm h
  ·rename_i ht; rw [if_neg ht]; exact hB.down hi hm h
 ·have h1 := hs h
  have him : i < m := by omega
  unfold tokP at h ⊢
  rw [tk_take him]
  split at h
  ·rename_i ht; rw [if_pos ht]; exact (hA _).up him hm h hj
  ·rename_i ht; rw [if_neg ht]; exact hB.up hi hm h hj
theorem t1_pos {f : PT → Par α} (hf : ∀ x, Ta1 (f x)) : Ta1 (posP f) := by
 refine ⟨⟨fun h => (hf _).mono h, fun hi h => (hf _).bd hi h, fun {L i m a j} hi hm h => ?_, fun {L i m a j} hi hm h hj => ?_⟩, fun h => (hf _).strict h⟩
 ·have h1 := (hf _).strict h
  have h2 := (hf _).bd (by rw [Ex.take_len hm]; exact hi) h
  rw [Ex.take_len hm] at h2
  unfold posP at h ⊢
  rw [tk_take (by omega)] at h
  exact (hf _).down hi hm h
 ·have h1 := (hf _).strict h
  unfold posP at h ⊢
  rw [tk_take (by omega)]
  exact (hf _).up hi hm h hj
theorem t1_bind {p : Par α} {q : α → Par β} (hp : Good2 p) (hq : ∀ a, Ta1 (q a)) : Ta1 (bindP p q) := by
 have hm1 : ∀ {L i a j}, p L i = .ok (a, j) → i ≤ j ∧ (i ≤ L.length → j ≤ L.length) := fun {L i a j} h => by
  have := g2_max hp L i
  rw [h] at this
  exact ⟨this.1, this.2.1⟩
 refine ⟨⟨fun h => ?_, fun hi h => ?_, fun {L i m b j} hi hm h => ?_, fun {L i m b j} hi hm h hj => ?_⟩, fun h => ?_⟩
 ·obtain ⟨a, j1, h1, h2⟩ := bind_inv h
  exact Nat.le_trans (hm1 h1).1 ((hq a).mono h2)
 ·obtain ⟨a, j1, h1, h2⟩ := bind_inv h
  exact (hq a).bd ((hm1 h1).2 hi) h2
 ·obtain ⟨a, j1, h1, h2⟩ := bind_inv h
  have h3 := (hm1 h1).2 (by rw [Ex.take_len hm]; exact hi)
  have h4 := (hq a).bd h3 h2
  have h5 := (hq a).strict h2
  rw [Ex.take_len hm] at h3 h4
  rcases hp.lock L m i hi hm with ⟨e, _⟩ | ⟨e, _⟩
  ·rw [e] at h1
   exact bind_mk h1 ((hq a).down h3 hm h2)
  ·rw [h1] at e
   have : j1 = m := e
   omega
 ·obtain ⟨a, j1, h1, h2⟩ := bind_inv h
  have h5 := (hq a).strict h2
  rcases hp.lock L m i hi hm with ⟨e, _⟩ | ⟨_, e⟩
  ·exact bind_mk (e.trans h1) ((hq a).up (by omega) hm h2 hj)
  ·rw [h1] at e
   have : m ≤ j1 := e
   omega
 ·obtain ⟨a, j1, h1, h2⟩ := bind_inv h
  exact Nat.lt_of_le_of_lt (hm1 h1).1 ((hq a).strict h2)
theorem t1_bind0 {p : Par α} {q : α → Par β} (hp : Ta1 p) (hq : ∀ a, Ta0 (q a)) : Ta1 (bindP p q) := by
 refine ⟨⟨fun h => ?_, fun hi h => ?_, fun {L i m b j} hi hm h => ?_, fun {L i m b j} hi hm h hj => ?_⟩, fun h => ?_⟩
 ·obtain ⟨a, j1, h1, h2⟩ := bind_inv h
  exact Nat.le_trans (hp.mono h1) ((hq a).mono h2)
 ·obtain ⟨a, j1, h1, h2⟩ := bind_inv h
  exact (hq a).bd (hp.bd hi h1) h2
 ·obtain ⟨a, j1, h1, h2⟩ := bind_inv h
  have h3 := hp.bd (by rw [Ex.take_len hm]; exact hi) h1
  rw [Ex.take_len hm] at h3
  exact bind_mk (hp.down hi hm h1) ((hq a).down h3 hm h2)
 ·obtain ⟨a, j1, h1, h2⟩ := bind_inv h
  have h3 := (hq a).mono h2
  exact bind_mk (hp.up hi hm h1 (by omega)) ((hq a).up (by omega) hm h2 hj)
 ·obtain ⟨a, j1, h1, h2⟩ := bind_inv h
  exact Nat.lt_of_lt_of_le (hp.strict h1) ((hq a).mono h2)
theorem t1_need {s : ByteArray} {p : Par α} (h : Ta0 p) : Ta1 (needF s p) := t1_tok (tT_no s) (fun _ => h) t1_fail
theorem t1_if {c : Prop} [Decidable c] {p q : Par α} (h1 : Ta1 p) (h2 : Ta1 q) : Ta1 (if c then p else q) := by split <;> assumption
end
section
variable (g : Nat) (bl : Par T1) (df : Par (List T1))
abbrev Pre := (Nat × (Nat × Nat)) × (ByteArray × List T1)
def preT (k : Nat) (p : Nat × Nat) : Par Pre := needF De.sModule (tokP isNm (fun n => needF sSem (bindP (Un.importsR g g []) fun l => bindP (Un.restF bl df k l) fun l2 => retP ((k, p), (n.1.text, l2)))) failP)
def preG : Par Pre := posP fun t => tokP (isWd6 Un.sDefn) (fun _ => preT g bl df 50 t.2.1) (tokP (isWd6 Un.sImpl) (fun _ => preT g bl df 51 t.2.1) (preT g bl df 52 t.2.1))
def endT (r : Pre) : Par T1 := tokP (Un.isThe r.2.1) (fun _ => needF sDot (retP (mk r.1.1 r.1.2 r.2.1 0 r.2.2))) failP
variable {g bl df}
theorem fail_bind {α β : Type} {q : α → Par β} : bindP failP q = failP := rfl
theorem tail_pre {k : Nat} {p : Nat × Nat} : Un.tailF g bl df k p = bindP (preT g bl df k p) endT := by
 unfold Un.tailF preT endT
 simp only [sb_need, sb_tok, sb_assoc, sb_ret, fail_bind]
theorem unit_pre : Un.unitG g bl df = bindP (preG g bl df) endT := by
 unfold Un.unitG preG
 simp only [sb_pos, sb_tok, ← tail_pre]
theorem t1_pre (hb : Ta1 bl) (hd : Good2 df) : Ta1 (preG g bl df) := by
 have h1 : ∀ k l, Ta1 (Un.restF bl df k l) := fun k l => t1_if (t1_bind hd fun d => t1_need (t0_ret _)) (t1_bind0 hb fun b => t0_ret _)
 have h2 : ∀ k p, Ta1 (preT g bl df k p) := fun k p => t1_need (t1_tok rfl (fun n => (t1_need (t1_bind (Un.g2_imports _ _) fun l => t1_bind0 (h1 k l) fun l2 => t0_ret _).toTa0).toTa0) t1_fail).toTa0
 exact t1_pos fun t => t1_tok rfl (fun _ => (h2 _ _).toTa0) (t1_tok rfl (fun _ => (h2 _ _).toTa0) (h2 _ _))
theorem t1_block {f : Nat} : Ta1 (De.blockF g (f + 1)) := by
 show Ta1 (De.blockG g (De.typF g g) (De.blockF g f))
 unfold De.blockG
 exact t1_pos fun t => t1_bind (De.g2_decls (De.g2_typF _) (De.g2_blockF _) _ _) fun l => t1_tok (tT_no _) (fun _ => (t1_bind De.g2_bdF fun b => t1_need (t0_ret _)).toTa0) (t1_pos fun u => t1_need (t0_ret _))
theorem t1_end (r : Pre) : Ta1 (endT r) := t1_tok rfl (fun _ => (t1_need (t0_ret _)).toTa0) t1_fail
end
section
variable {g : Nat} {L L' : List PT} {x : T1}
theorem g2_pre (hg : 0 < g) : Ta1 (preG g (De.blockF g g) (De.defF g)) := by
 obtain ⟨f, rfl⟩ : ∃ f, g = f + 1 := ⟨g - 1, by omega⟩
 exact t1_pre t1_block De.g2_defF
structure Whole (g : Nat) (L : List PT) (x : T1) : Prop where
 big : L.length < g
 parse : Un.parseU g L 0 = .ok (x, L.length)
theorem Whole.unit (h : Whole g L x) : Un.unitG g (De.blockF g g) (De.defF g) L 0 = .ok (x, L.length) := by
 obtain ⟨a, j, h1, h2⟩ := bind_inv h.parse
 unfold posP at h2
 dsimp only at h2
 split at h2
 ·cases h2; exact h1
 ·cases h2
theorem Whole.pre (h : Whole g L x) : ∃ r, preG g (De.blockF g g) (De.defF g) L 0 = .ok (r, L.length - 2) ∧ 2 ≤ L.length ∧ (tk L (L.length - 2)).1.kind = 1 ∧ x.1.name = r.2.1 ∧ (r.2.1 ≠ sNil → (tk L (L.length - 2)).1.text = r.2.1) := by
 have h1 := h.unit
 rw [unit_pre] at h1
 obtain ⟨r, j, h2, h3⟩ := bind_inv h1
 unfold endT needF at h3
 unfold tokP at h3
 dsimp only at h3
 split at h3
 ·rename_i ht
  split at h3
  ·injection h3 with h3
   injection h3 with h4 h5
   have hj : j = L.length - 2 := by omega
   subst hj
   unfold Un.isThe isNm at ht
   simp only [Bool.and_eq_true, decide_eq_true_eq, Bool.or_eq_true] at ht
   exact ⟨r, h2, by omega, ht.1, by rw [← h4]; rfl, fun hn => ht.2.resolve_left hn⟩
  ·cases h3
 ·cases h3
theorem Whole.t1 (h : Whole g L x) : Ta1 (Un.unitG g (De.blockF g g) (De.defF g)) := by
 rw [unit_pre]
 exact t1_bind0 (g2_pre (by have := h.big; omega)) fun r => (t1_end r).toTa0
theorem Whole.cut (h : Whole g L x) {m : Nat} (hm : m < L.length) : Un.parseU g (L.take m) 0 = .error m := by
 rcases g2_at (Un.g2_parse g) (L := L) (i := 0) (m := m) (Nat.zero_le _) (by rw [h.parse]; exact Nat.le_of_lt hm) (Nat.le_of_lt hm) with ⟨y, j, h1, h2⟩ | h1
 ·exfalso
  obtain ⟨a, j1, h3, h4⟩ := bind_inv h1
  unfold posP at h4
  dsimp only at h4
  split at h4
  ·cases h4
   have := h.t1.down (Nat.zero_le _) (Nat.le_of_lt hm) h3
   rw [h.unit] at this
   injection this with this
   injection this with _ this
   omega
  ·cases h4
 ·exact h1
theorem Whole.other (h : Whole g L x) {m : Nat} (hm : m < L.length) (t : PT) : match Un.parseU g (L.take m ++ [t]) 0 with | .ok _ => True | .error k => k = m ∨ k = m + 1 := by
 have hl : (L.take m ++ [t]).length = m + 1 := by rw [List.length_append, Ex.take_len (Nat.le_of_lt hm)]; rfl
 have ht : (L.take m ++ [t]).take m = L.take m := by rw [List.take_append_of_le_length (by rw [Ex.take_len (Nat.le_of_lt hm)]; exact Nat.le_refl _), List.take_take, Nat.min_self]
 have h1 := (Un.g2_parse g).lock (L.take m ++ [t]) m 0 (Nat.zero_le _) (by omega)
 have h2 := g2_le (Un.g2_parse g) (L := L.take m ++ [t]) (i := 0) (Nat.zero_le _)
 rw [ht, h.cut hm] at h1
 rw [hl] at h2
 rcases h1 with ⟨e, h3⟩ | ⟨_, h3⟩
 ·rw [← e] at h3
  have h4 : m < m := h3
  omega
 ·cases e : Un.parseU g (L.take m ++ [t]) 0 with
  | ok r => trivial
  | error k =>
    rw [e] at h3 h2
    have h5 : m ≤ k := h3
    have h6 : k ≤ m + 1 := h2
    show k = m ∨ k = m + 1
    omega
theorem Whole.named (h : Whole g L x) (hx : x.1.name ≠ sNil) (hl : L'.length = L.length) (ht : L'.take (L.length - 2) = L.take (L.length - 2)) (hn : (tk L' (L.length - 2)).1.text ≠ x.1.name) : Un.parseU g L' 0 = .error (L.length - 2) := by
 obtain ⟨r, h1, h2, _, h4, _⟩ := h.pre
 have hp := g2_pre (g := g) (by have := h.big; omega)
 have h5 := hp.up (Nat.zero_le _) (Nat.sub_le _ 2) h1 nl
 rw [← ht] at h5
 have h6 := hp.down (Nat.zero_le _) (by omega) h5
 have h7 : Un.unitG g (De.blockF g g) (De.defF g) L' 0 = .error (L.length - 2) := by
  rw [unit_pre]
  unfold bindP
  rw [h6]
  dsimp only
  unfold endT tokP
  rw [if_neg]
  ·rfl
  ·unfold Un.isThe
   rw [← h4, decide_eq_false hx, decide_eq_false hn]
   simp
 unfold Un.parseU Un.parseG bindP
 rw [h7]
theorem Whole.behind (h : Whole g L x) (t : PT) (ht : t.1.kind ≠ 0) : Un.parseU g (L ++ [t]) 0 = .error L.length := by
 have hl : (L ++ [t]).length = L.length + 1 := by rw [List.length_append]; rfl
 have h1 : (L ++ [t]).take L.length = L := List.take_left' rfl
 have h2 := h.t1.down (L := L ++ [t]) (i := 0) (m := L.length) (Nat.zero_le _) (by omega) (by rw [h1]; exact h.unit)
 unfold Un.parseU Un.parseG bindP
 rw [h2]
 dsimp only
 show (if Un.isFin (tk (L ++ [t]) L.length) = true then _ else _ : Par T1) _ _ = _
 rw [if_neg]
 ·rfl
 ·unfold Un.isFin tk
  rw [List.getElem?_append_right nl, Nat.sub_self]
  simpa using ht
end
end Rn
namespace Rn
open Lx (Tk noTk lex bt)
open Ex
open St (Prt PFit textP text_ok lex_bx)
theorem row_unit {g k : Nat} {l : List Nat} {q : List (Prt × Value)} (hq : PFit (q.map (·.1))) (hn : rowP (srcX k l q) ≠ []) (hg : (rowP (srcX k l q)).length < g) : ∃ x, Whole g (rowP (srcX k l q)) x ∧ x.1.name = nM := by
 have hs : (srcX k l q).length ≤ 16384 := by
  rcases Nat.lt_or_ge 16384 (srcX k l q).length with h | h
  ·exfalso
   apply hn
   unfold rowP Lx.scanL
   rw [if_pos h]
  ·exact h
 obtain ⟨h1, _⟩ := text_ok 3 5 _ hq
 have h2 := row_some hs (lex_unit (k % 4) (lex_ty (typeP 4 l).1) (lex_bx _ h1))
 have hl : (rowP (srcX k l q)).length = (unitT (k % 4) (typeP 4 l).1.toks (textP 3 5 (q.map (·.1))).1.toks).length := by rw [← h2, List.length_map]
 have h3 : AtT (rowP (srcX k l q)) 0 (unitT (k % 4) (typeP 4 l).1.toks (textP 3 5 (q.map (·.1))).1.toks) := atT_of _ [] 0 fun j hj => by
  rw [tk_map, h2, Nat.zero_add, List.append_nil]
 obtain ⟨x, h4, h5⟩ := unit_all (k % 4) hg (type_ok 4 l).1 h1 h3 hl
 exact ⟨x, ⟨hg, h4⟩, h5⟩
end Rn
namespace Un
open Go.RowKit
open Tr (Nd Fo RepS RepN Rep cellsN)
open Lx (Tk noTk Blk run_store_complexL TokAt scanL scanF flat scanEnd at_ lex EnvS)
open Fl
open Ex
open St (TkS Good2 isWd6 sEnd ret_)
attribute [local go_sem] run_store_complexL run_field1 run_field3
def unFB : Fo → List T1
 | .no => []
 | .node d k r => (d, k) :: unFB r
theorem unF_forestB : ∀ l : List T1, unFB (forest l) = l
 | [] => by unfold forest; rfl
 | x :: l => by
   show unFB (.node x.1 x.2 (forest l)) = _
   unfold unFB
   rw [unF_forestB l]
theorem rep_lenB {S : Nat → Prop} {w : World} : ∀ {f : Fo} {vs : List Value}, RepS S w f vs → vs.length = (unFB f).length
 | .no, vs, h => by unfold RepS at h; subst h; rfl
 | .node d k r, vs, h => by
   unfold RepS at h
   obtain ⟨b, A, c, ks, vs', rfl, _, _, _, _, _, h7⟩ := h
   unfold unFB
   simp only [List.length_cons, rep_lenB h7]
theorem rep_getB {S : Nat → Prop} {w : World} : ∀ {f : Fo} {vs : List Value}, RepS S w f vs → ∀ (i : Nat) (hi : i < (unFB f).length), ∃ b, vs[i]? = some (.pointer (some ⟨b, 0, none⟩)) ∧ RepS S w (.node ((unFB f)[i]).1 ((unFB f)[i]).2 .no) [.pointer (some ⟨b, 0, none⟩)]
 | .no, vs, h, i, hi => by unfold unFB at hi; simp at hi
 | .node d k r, vs, h, i, hi => by
   unfold RepS at h
   obtain ⟨b, A, c, ks, vs', rfl, h2, h3, h4, h5, h6, h7⟩ := h
   cases i with
   | zero =>
     refine ⟨b, rfl, ?_⟩
     show RepS S w (.node d k .no) _
     unfold RepS
     exact ⟨b, A, c, ks, [], rfl, h2, h3, h4, h5, h6, by unfold RepS; rfl⟩
   | succ i =>
     unfold unFB at hi
     obtain ⟨b', g1, g2⟩ := rep_getB h7 i (by simpa using hi)
     exact ⟨b', by simpa using g1, g2⟩
theorem node_atB {S : Nat → Prop} {w : World} {d : Nd} {f : Fo} {b : Nat} (h : RepS S w (.node d f .no) [.pointer (some ⟨b, 0, none⟩)]) :
 ∃ A c, b < w.heap.size ∧ w.cell? ⟨b, 0, none⟩ = some (.int .u8 d.kind) ∧ w.cell? ⟨b, 2, none⟩ = some (.string d.name) ∧ w.cell? ⟨b, 4, none⟩ = some (.slice A (unFB f).length c) ∧
  ∀ i (hi : i < (unFB f).length), ∃ g off bi, A = some ⟨g, off, none⟩ ∧ w.cell? ⟨g, off + i, none⟩ = some (.pointer (some ⟨bi, 0, none⟩)) ∧ RepS S w (.node ((unFB f)[i]).1 ((unFB f)[i]).2 .no) [.pointer (some ⟨bi, 0, none⟩)] := by
 unfold RepS at h
 obtain ⟨b', A, c, ks, vs', e, h2, ⟨h30, h31, h32, h33, h34⟩, h4, h5, h6, h7⟩ := h
 injection e with e _
 injection e with e
 injection e with e
 injection e with e
 subst e
 have hl := rep_lenB h6
 refine ⟨A, c, Tr.cell_lt h30, h30, h32, by rw [← hl]; exact h34, fun i hi => ?_⟩
 obtain ⟨g, off, rfl, _, _⟩ := h4 (by omega)
 obtain ⟨bi, q1, q2⟩ := rep_getB h6 i hi
 obtain ⟨ad, e2, _, hc⟩ := h5.2 (by omega)
 injection e2 with e2
 subst e2
 refine ⟨g, off, bi, rfl, ?_, q2⟩
 have := hc i _ q1
 rwa [show (⟨g, off, none⟩ : Addr).add i = ⟨g, off + i, none⟩ by unfold Addr.add; split <;> simp_all] at this
theorem carB {w wr : World} {a : Addr} {v : Value} (hB : Below w.heap.size w wr) (h : w.cell? a = some v) : wr.cell? a = some v := (hB.cell (World.block_lt_of_cell? w _ h)).trans h
theorem imports_0 {w : World} {d : Nd} {l : List T1} {b : Nat} (h : RepS (fun _ => True) w (.node d (forest l) .no) [.pointer (some ⟨b, 0, none⟩)]) (hk1 : 50 ≤ d.kind) (hk2 : d.kind ≤ 52) (hl : l.length ≤ 1000) (hkk : ∀ k ∈ l, k.1.kind ≠ 53 ∧ k.1.kind ≠ 54) :
 Calls Tryz.prog 15 #[.pointer (some ⟨b, 0, none⟩)] w fun e w' => e = .returned (.slice none 0 0) ∧ Below w.heap.size w w' := by
 obtain ⟨A, c, hb, z0, z2, z4, hks⟩ := node_atB h
 rw [unF_forestB] at z4
 have HKS := qh (fun (i : Nat) (hi : i < l.length) => show ∃ g off bi, A = some ⟨g, off, none⟩ ∧ w.cell? ⟨g, off + i, none⟩ = some (.pointer (some ⟨bi, 0, none⟩)) ∧ RepS (fun _ => True) w (.node (l[i]).1 (l[i]).2 .no) [.pointer (some ⟨bi, 0, none⟩)] from by
  obtain ⟨g, off, bi, e1, e2, e3⟩ := hks i (by rw [unF_forestB]; exact hi)
  simp only [unF_forestB] at e3
  exact ⟨g, off, bi, e1, e2, e3⟩)
 have HKK := qh hkk
 have x1 : ¬ ((d.kind : Int) < 50) := by omega
 have x2 : ¬ (52 < (d.kind : Int)) := by omega
 have hmf : ∀ (fn : Fn) (first cap : Array Value) (w : World), (Instr.makeFunc fn first cap).run Tryz.prog w = .ok (.func fn first cap) w := fun _ _ _ _ => rfl
 have HN := qh (Blk.new w 44 #[.slice none 0 0])
 have HB := qh (show Below w.heap.size w (w.alloc (.cells #[.slice none 0 0] 44)) from (Below.refl _ _).alloc nl _)
 clear h hks hkk z2
 go_enter Tryz.func15, Tryz.ntmps15
 go_wp2_with fail
 go_loopg [30] l.length (fun gh iv wr => ∃ (i : Nat), iv = .int .i64 (i : Nat) ∧ i ≤ l.length ∧ l.length - i ≤ gh ∧ Hid (Blk wr w.heap.size 44 #[.slice none 0 0]) ∧ Hid (Below w.heap.size w wr))
 case atStart => exact ⟨0, rfl, by omega, by omega, HN, HB⟩
 case round =>
  clear HN HB
  obtain ⟨i, rfl, hi, hgh, HN, HB⟩ := hrel
  have hmb : w.heap.size < wr.heap.size := HN.out.lt
  by_cases hlt : i < l.length
  ·have x3 : (i : Int) < (l.length : Int) := by omega
   obtain ⟨g, off, bi, rfl, zr, HR⟩ := HKS.out i hlt
   obtain ⟨A2, c2, hbi, q0, q2, q4, hgs⟩ := node_atB HR
   replace zr := carB HB.out zr
   replace q0 := carB HB.out q0
   have hbi' : bi < wr.heap.size := Nat.lt_of_lt_of_le hbi HB.out.size
   have hk3 := HKK.out l[i] (List.getElem_mem hlt)
   clear HR hgs q2 q4
   generalize l[i] = k at *
   obtain ⟨⟨kk, kp, kn, km⟩, kf⟩ := k
   simp only at q0 hk3
   have h54' : ¬ (kk : Int) = 54 := by omega
   have h53' : ¬ (kk : Int) = 53 := by omega
   clear hk3
   go_wp2
   go_roundg (l.length - i - 1)
   case rel => exact ⟨i + 1, by rfl, by omega, by omega, HN, HB⟩
   case measure => omega
  ·have x3 : ¬ (i : Int) < (l.length : Int) := by omega
   have m0 : wr.cell? ⟨w.heap.size, 0, none⟩ = some (.slice none 0 0) := HN.out.cell 0
   have f0 := HN.out.frozen 0
   go_wp2
   have zz := World.cell?_setCell_same wr ⟨w.heap.size, 0, none⟩ (.slice none 0 0) m0
   exact bodyPost_ret (v := .slice none 0 0) (by simp [results, Tryz.results15, go_sem, zz]) rfl ⟨rfl, HB.out.setCell (p := ⟨w.heap.size, 0, none⟩) nl _⟩
def chkB1 (s : List UInt8) : Bool := match scanL s with
 | .ok l => match parseU (l.length + 1) (rowT s l) 0 with | .ok ((d, .node d0 _ .no), _) => decide (d.kind = 52) && decide (d0.kind = 45) | _ => false
 | .error _ => false
def chkB2 (s : List UInt8) : Bool := match scanL s with
 | .ok l => match parseU (l.length + 1) (rowT s l) 0 with | .error k => decide (k < l.length) && decide ((tk (rowT s l) k).2.1 = (1, 15)) | _ => false
 | .error _ => false
abbrev wuB1 : ByteArray := ⟨#[77, 79, 68, 85, 76, 69, 32, 97, 59, 32, 69, 78, 68, 32, 97, 46]⟩
abbrev wuB2 : ByteArray := ⟨#[77, 79, 68, 85, 76, 69, 32, 97, 59, 32, 69, 78, 68, 32, 98, 46]⟩
theorem ckB1 : chkB1 wuB1.data.toList = true := by decide +kernel
theorem ckB2 : chkB2 wuB2.data.toList = true := by decide +kernel
theorem readB1 {w : World} (E : EnvS w) : ∃ L d d0 k0 j, d.kind = 52 ∧ d0.kind = 45 ∧ Calls Tryz.prog 13 #[.string wuB1] w (ReadR w L (.ok ((d, .node d0 k0 .no), j))) := by
 have h := ckB1
 unfold chkB1 at h
 split at h
 ·rename_i l hl
  have hll := Ex.scanL_len hl
  split at h
  ·rename_i d d0 k0 j hx
   rw [Bool.and_eq_true, decide_eq_true_iff, decide_eq_true_iff] at h
   refine ⟨rowT wuB1.data.toList l, d, d0, k0, j, h.1, h.2, ?_⟩
   rw [← hx]
   exact Read_ok wuB1 E hl (fun k e => by rw [hx] at e; cases e) fun w A c h => Parse_all h (by rw [rowT_len]; omega) c
  ·cases h
 ·cases h
theorem readB2 {w : World} (E : EnvS w) : Calls Tryz.prog 13 #[.string wuB2] w fun e w' => e = .returned (.tuple #[.pointer none, .complex .f64 (fl 1) (fl 15), .int .i64 60]) ∧ Below w.heap.size w w' := by
 have h := ckB2
 unfold chkB2 at h
 split at h
 ·rename_i l hl
  have hll := Ex.scanL_len hl
  split at h
  ·rename_i k hx
   rw [Bool.and_eq_true, decide_eq_true_iff, decide_eq_true_iff] at h
   have := Read_ok wuB2 E hl (r := parseU (l.length + 1) (rowT wuB2.data.toList l) 0) (fun k' e => by rw [hx] at e; injection e with e; subst e; exact h.1) fun w A c h => Parse_all h (by rw [rowT_len]; omega) c
   rw [hx] at this
   refine this.mono fun e w' ⟨h1, h2⟩ => ⟨?_, h2⟩
   rw [h1, h.2]
  ·cases h
 ·cases h
theorem works_all {w : World} (E : EnvS w) : Calls Tryz.prog 7 #[] w fun e w' => e = .returned (.bool true) ∧ Below w.heap.size w w' := by
 obtain ⟨L, d, d0, k0, j, hd, hd0, d1⟩ := readB1 E
 have D1 := qh d1
 have HE := qh E
 have HPS := qh (fun (w : World) => show Calls Tryz.prog 16 #[.agg #[.int .i64 1, .int .i64 15]] w fun e w' => e = .returned (.complex .f64 (fl 1) (fl 15)) ∧ Below w.heap.size w w' from Lx.pos_at (q := (1, 15)) rfl w)
 have sp : ((FloatKind.f64.format.order (fl 1) (fl 1) == some .eq) && (FloatKind.f64.format.order (fl 15) (fl 15) == some .eq)) = true := by
  rw [fl_order _ _ (by omega) (by omega), fl_order _ _ (by omega) (by omega)]; rfl
 clear d1 E
 go_enter Tryz.func7, Tryz.ntmps7
 go_wp2_with fail
 ((with_reducible refine D1.out.mono ?_); rintro e w1 ⟨b, rfl, hr, hb⟩)
 have HB := qh hb
 have HR := qh (hr.more (S' := fun _ => True) fun _ _ _ => trivial)
 have D2 := qh (readB2 (HE.out.below nl hb))
 clear hr hb D1
 go_wp2_with fail
 ((with_reducible refine D2.out.mono ?_); rintro e w2 ⟨rfl, hb⟩)
 have HB := qh (HB.out.trans (hb.mono HB.out.size))
 have HR := qh (HR.out.below hb)
 clear hb D2
 obtain ⟨A, c, hbl, z0, _, z4, hks⟩ := node_atB HR.out
 obtain ⟨g, off, bi, rfl, zr, hr0⟩ := hks 0 (by unfold unFB; simp)
 obtain ⟨_, _, hbi, y0, _, _, _⟩ := node_atB hr0
 have hr0' : (unFB (.node d0 k0 .no)).length = 1 := by unfold unFB unFB; rfl
 rw [hr0'] at z4
 rw [show ((unFB (.node d0 k0 .no))[0]'(by rw [hr0']; omega)).1.kind = 45 from hd0] at y0
 rw [hd] at z0
 rw [Nat.add_zero] at zr
 have DI := qh (fun (w : World) (hr : RepS (fun _ => True) w (.node d (.node d0 k0 .no) .no) [.pointer (some ⟨b, 0, none⟩)]) => imports_0 (w := w) (d := d) (l := [(d0, k0)]) hr (by omega) (by omega) (by simp) (fun k hk => by rw [List.mem_singleton] at hk; subst hk; exact ⟨fun e => absurd (hd0.symm.trans e) (by decide), fun e => absurd (hd0.symm.trans e) (by decide)⟩))
 clear hks hr0 hr0'
 go_wp2_with fail
 ((with_reducible refine (HPS.out w2).mono ?_); rintro e w3 ⟨rfl, hb⟩)
 have HB := qh (HB.out.trans (hb.mono HB.out.size))
 have HR := qh (HR.out.below hb)
 have hbl3 : b < w3.heap.size := Nat.lt_of_lt_of_le hbl hb.size
 clear hb
 go_wp2_with fail
 ((with_reducible refine (DI.out w3 HR.out).mono ?_); rintro e w4 ⟨rfl, hb⟩)
 have HB := qh (HB.out.trans (hb.mono HB.out.size))
 clear hb
 go_wp2
 go_ret
 exact ⟨rfl, HB.out⟩
end Un
namespace Rn
open Go.RowKit
open Lx (Tk noTk bt)
open Fl
open Ex
open St (Prt PFit textP text_ok text_len lenB Parts)
theorem unitX_len (k : Nat) (t x : List UInt8) : (unitX k t x).length ≤ t.length + 2 * x.length + 2000 := by
 have hc : b_u0a.length ≤ 200 ∧ b_u0b.length ≤ 200 ∧ b_u1a.length ≤ 200 ∧ b_u1b.length ≤ 200 ∧ b_u1c.length ≤ 200 ∧ b_u1d.length ≤ 200 ∧ b_u2a.length ≤ 200 ∧ b_u2b.length ≤ 200 ∧ b_u3a.length ≤ 200 ∧ b_u3d.length ≤ 200 := by decide
 unfold unitX
 obtain ⟨c0, c1, c2, c3, c4, c5, c6, c7, c8, c9⟩ := hc
 split <;> simp only [List.length_append, List.length_cons, List.length_nil] <;> omega
theorem src_size {k : Nat} {l : List Nat} {q : List (Prt × Value)} (hq : PFit (q.map (·.1))) (h10 : q.length ≤ 10) : (bt (srcX k l q)).size ≤ 1000000 := by
 have ht := (type_ok 4 l).2.2
 have h1 := text_len 3 5 _ hq
 have h2 := (text_ok 3 5 _ hq).2
 have h5 := unitX_len (k % 4) (typeP 4 l).1.text (textP 3 5 (q.map (·.1))).1.text
 rw [List.length_map] at h2
 have h3 : lenB 3 = 19500 := rfl
 have h4 : (2 : Nat) ^ 4 = 16 := rfl
 rw [h3] at h1
 rw [h4] at ht
 show (srcX k l q).toArray.size ≤ 1000000
 rw [List.size_toArray]
 show (unitX _ _ _).length ≤ _
 omega
abbrev RowO (w : World) (B : Nat) (v : Value) (L : List PT) : Prop := w.ownsRow B 40 5 v L.length (flatP L)
theorem RowO.at_ {w : World} {B : Nat} {v : Value} {L : List PT} (h : RowO w B v L) (hl : L.length ≤ 20000) : ∃ A c, v = .slice A L.length c ∧ RowAt w A L := by
 obtain ⟨A, c, e, hr⟩ := own_form h
 subst e
 refine ⟨A, c, rfl, hr, fun ad e => ?_, hl⟩
 subst e
 exact (World.ownsRow.lt h ad.block rfl).2
theorem flatP_app (L M : List PT) : flatP (L ++ M) = flatP L ++ flatP M := List.flatMap_append
theorem vals_one (L : List PT) : ∀ u ∈ flatP L, u.oneCell' = true := fun u hu => by
 obtain ⟨t, _, h⟩ := List.mem_flatMap.1 hu
 unfold PT.vals Lx.Tk.vals at h
 simp only [List.mem_cons, List.not_mem_nil, or_false] at h
 rcases h with rfl | rfl | rfl | rfl | rfl <;> rfl
theorem run_row {w : World} {ty : TypeId} {B : Nat} {v : Value} {L M : List PT} (hown : RowO w B v L) (hB : B ≤ w.heap.size) {ad : Addr} {c : Nat} (hn : ∀ j u, (flatP M)[j]? = some u → w.cell? (ad.add j) = some u) (hl : L.length + M.length ≤ 20000) :
 ∃ v' w', (Builtin.append_ #[28, 28] ty #[v, .slice (some ad) M.length c]).run Tryz.prog w = .ok v' w' ∧ RowO w' B v' (L ++ M) ∧ w.grownBy w' v.ownBlock := by
 obtain ⟨i0, hi, hz0, hz1, hz2⟩ := info_parts Lx.info40
 obtain ⟨v', w', h1, h2, h3, _⟩ := run_append_own (P := Tryz.prog) w B 28 ty 40 i0 _ 5 64 Tryz.underlying28 hi hz0 hz1 hz2 rfl (by omega) v L.length (flatP L) hown ad M.length c (flatP M) (flatP_len M) hn (vals_one M) (by simp only [maxLen]; omega) (by omega) hB
 exact ⟨v', w', h1, by show w'.ownsRow _ _ _ _ _ _; rw [List.length_append, flatP_app]; exact h2, h3⟩
theorem RowO.bel {w w' : World} {B : Nat} {v : Value} {L : List PT} (h : RowO w B v L) (hB : B ≤ w.heap.size) (hg : w.grownBy w' v.ownBlock) : Below B w w' :=
 ⟨hg.os, hg.tape, hg.output, hg.size, fun k hk => hg.block k (by omega) (fun e => by have := (World.ownsRow.lt h k e.symm).1; omega)⟩
theorem step_row {ops : Array Oper} {o : Oper} {a : Act} {w : World} {K : Act → World → Prop} {Q : Exit → Act → World → Prop} {E : Prop} (hgd : o.guard = none) (s x : Operand)
 (ho : o.op = .call { callee := .builtin .append, args := #[s, x], argTypes := #[28, 28] }) (B : Nat) {v : Value} {L M : List PT} (hs : a.eval s = v) (hown : RowO w B v L) (hB : B ≤ w.heap.size)
 {ad : Addr} {c : Nat} (hx : a.eval x = .slice (some ad) M.length c) (hn : ∀ j u, (flatP M)[j]? = some u → w.cell? (ad.add j) = some u) (hl : L.length + M.length ≤ 20000)
 (h : ∀ v' w', RowO w' B v' (L ++ M) → w.grownBy w' v.ownBlock → Below B w w' → K (a.put o.dst v') w') :
 if Region.wanted o (yielded ops a.tmps) = true then Oper.wp Tryz.prog o a w K Q else E := by
 have hw : Region.wanted o (yielded ops a.tmps) = true := by simp [Region.wanted, hgd]
 rw [if_pos hw]
 obtain ⟨v', w', hr, h2, h3⟩ := run_row (ty := o.type) (c := c) hown hB hn hl
 unfold Oper.wp
 simp [execOp, ho, resolve, invoke, builtin, hs, hx, hr, Result.andThen]
 exact h v' w' h2 h3 (hown.bel hB h3)
theorem RowO.nil (w : World) (B : Nat) : RowO w B (.slice none 0 0) [] := World.ownsRow_nil w B _ _
theorem RowAt.spot {w : World} {A : Option Addr} {L : List PT} (h : RowAt w A L) {i : Nat} (hi : i < L.length) : ∃ b off, A = some ⟨b, off, none⟩ ∧ b < w.heap.size ∧
 w.cell? ⟨b, off + i * 5, none⟩ = some (.int .u8 L[i].1.kind) ∧ w.cell? ⟨b, off + i * 5 + 1, none⟩ = some (.complex .f64 (fl L[i].2.1.1) (fl L[i].2.1.2)) ∧ w.cell? ⟨b, off + i * 5 + 2, none⟩ = some (.complex .f64 (fl L[i].2.2.1) (fl L[i].2.2.2)) ∧
 w.cell? ⟨b, off + i * 5 + 3, none⟩ = some (.string L[i].1.text) ∧ w.cell? ⟨b, off + i * 5 + 4, none⟩ = some (.int .i64 L[i].1.n) := by
 obtain ⟨⟨b, off, sp⟩, e, hb, hc⟩ := h.reads.2 (by omega)
 have hs : sp = none := by
  have h0 := hc (0 * 5 + 0) _ ((flatP_at L 0 0 (by omega) (by omega)).trans rfl)
  have := World.cell?_spot h0
  simpa [Addr.add] using this
 subst hs
 have cc : ∀ j u, j < 5 → (PT.vals L[i])[j]? = some u → w.cell? ⟨b, off + i * 5 + j, none⟩ = some u := fun j u hj hu => by
  have := hc (i * 5 + j) u ((flatP_at L i j hi hj).trans hu)
  rw [Addr.add_lit] at this
  rwa [show off + (i * 5 + j) = off + i * 5 + j by omega] at this
 exact ⟨b, off, e, hb, cc 0 _ (by omega) rfl, cc 1 _ (by omega) rfl, cc 2 _ (by omega) rfl, cc 3 _ (by omega) rfl, cc 4 _ (by omega) rfl⟩
end Rn
end Go.Proofs.YtkemhmfdooghkaaGreatDoor
