/- A part of the proof: V2. -/
import Derived.Test.YtecmjhohniipoaaZ1
import Derived.Test.YtecmjhohniipoaaZ26
import Derived.Deep.Cut
import Derived.Deep.CutBlock
import Derived.Deep.CutRange
import Derived.Deep.AppendLies
import Derived.Deep.LoopGhost
set_option linter.unusedSimpArgs false
set_option linter.unusedVariables false

section
namespace Go.Proofs.Ytecmjhohniipoaa.Rs
open Go.RowKit
open Tr (Nd Fo RepS RepN Rep cellsN)
open Lx (Tk noTk Blk run_store_complexL TokAt)
open Fl
open Ex
attribute [local go_sem] run_store_complexL run_field1 run_field3 St.run_field0
structure KU (B : Nat) (w : World) (b : Nat) (d : Nd) (sv : Value) (K : Except Nat (List T1 × Nat)) (xs : List Value) : Prop where
 kn : KN B w b d sv xs
 good : ∀ acc j, K = .ok (acc, j) → KG B B w b d sv acc xs
section
variable {B B0 br b : Nat} {w w1 W : World} {d : Nd} {sv v : Value} {xs : List Value} {K K' : Except Nat (List T1 × Nat)} {R : Except Nat (T1 × Nat)}
theorem KU.grown (h : KU B w b d sv K xs) (hg : w.grownBy w1 (some br)) (hbr : br < B) : KU B w1 b d sv K xs := ⟨h.kn.grown hg hbr, fun acc j e => (h.good acc j e).grown hg hbr (Nat.le_refl _)⟩
theorem KU.below (h : KU B w b d sv K xs) (hb : Below w.heap.size w w1) : KU B w1 b d sv K xs := ⟨h.kn.below hb, fun acc j e => (h.good acc j e).below hb⟩
theorem KU.to_ (h : KU B w b d sv K xs) (hk : ∀ acc j, K' = .ok (acc, j) → ∃ j', K = .ok (acc, j')) : KU B w b d sv K' xs := ⟨h.kn, fun acc j e => by obtain ⟨j', e'⟩ := hk acc j e; exact h.good acc j' e'⟩
theorem need_to {s : ByteArray} {L : List PT} : ∀ acc j, needK K s L = .ok (acc, j) → ∃ j', K = .ok (acc, j') := by
 intro acc j e
 rcases K with k | ⟨a, j0⟩
 ·cases e
 ·unfold needK at e
  dsimp only at e
  split at e
  ·cases e; exact ⟨_, rfl⟩
  ·cases e
theorem adv_to : ∀ acc j, advK K = .ok (acc, j) → ∃ j', K = .ok (acc, j') := by
 intro acc j e
 rcases K with k | ⟨a, j0⟩
 ·cases e
 ·cases e; exact ⟨_, rfl⟩
theorem KU.step {g cap : Nat} (h : KU B W b d sv K xs) (hx : ∀ x j, R = .ok (x, j) → RepS (fun y => B ≤ y ∧ y ≠ b ∧ sv.ownBlock ≠ some y) W (.node x.1 x.2 .no) [v])
 (hown : w1.ownsRow B 26 1 (.slice (some ⟨g, 0, none⟩) (xs.length + 1) cap) (xs.length + 1) (xs ++ [v])) (hg : W.grownBy w1 sv.ownBlock) (hor : sv.ownBlock = some g ∨ g = W.heap.size) :
 KU B (w1.setCell ⟨b, 4, none⟩ (.slice (some ⟨g, 0, none⟩) (xs.length + 1) cap)) b d (.slice (some ⟨g, 0, none⟩) (xs.length + 1) cap) (pushK K R) (xs ++ [v]) := by
 refine ⟨h.kn.step hown hg, fun acc j e => ?_⟩
 rcases K with k | ⟨acc0, j0⟩
 ·cases e
 ·rcases R with k | ⟨x, j1⟩
  ·cases e
  ·cases e
   exact (h.good acc0 j0 rfl).step (hx x j rfl) hown hg hor
theorem KU.new (h : KU B w b d sv K xs) (hr : ∀ x j, R = .ok (x, j) → RepS (fun y => w.heap.size ≤ y) w1 (.node x.1 x.2 .no) [v]) : ∀ x j, R = .ok (x, j) → RepS (fun y => B ≤ y ∧ y ≠ b ∧ sv.ownBlock ≠ some y) w1 (.node x.1 x.2 .no) [v] := by
 intro x j e
 have h1 := h.kn.blk.lt
 have h2 := h.kn.low
 exact (hr x j e).more fun y hy _ => ⟨by omega, by omega, fun e => by have := (h.kn.own.lt _ e).2; omega⟩
theorem KU.start {j : Nat} (h : KG B B w b d sv [] []) : KU B w b d sv (.ok ([], j)) [] := ⟨h.kn, fun acc j e => by cases e; exact h⟩
theorem KU.lower {B' : Nat} (h : KU B w b d sv K xs) (hB : B' ≤ B) (hs : ∀ acc j, K = .ok (acc, j) → KG B' B w b d sv acc xs) : KU B' w b d sv K xs := ⟨h.kn.lower hB, fun acc j e => (hs acc j e).lower hB⟩
theorem KU.old {n : Nat} (hx : ∀ x j, R = .ok (x, j) → RepS (fun y => B ≤ y ∧ y < n) w (.node x.1 x.2 .no) [v]) (hb : n ≤ b) : ∀ x j, R = .ok (x, j) → RepS (fun y => B ≤ y ∧ y ≠ b ∧ (Value.slice none 0 0).ownBlock ≠ some y) w (.node x.1 x.2 .no) [v] :=
 fun x j e => (hx x j e).more fun y hy _ => ⟨hy.1, by omega, by simp [Value.ownBlock]⟩
theorem pos_push0 {α : Type} {acc : List α} {j0 : Nat} {R : Except Nat (α × Nat)} : posE (pushK (.ok (acc, j0)) R) = posE R ∧ badE (pushK (.ok (acc, j0)) R) = badE R := by
 rcases R with k | ⟨x, j⟩ <;> exact ⟨rfl, rfl⟩
theorem KG.app {m c' : Nat} {A' : Option Addr} {l : List T1} {acc : List T1} {vs : List Value} (h : KG B B W b d sv acc xs) (hl : RepS (fun y => B ≤ y ∧ y ≠ b ∧ sv.ownBlock ≠ some y) W (forest l) vs) (hm : vs.length = m)
 (hown : w1.ownsRow B 26 1 (.slice A' (xs.length + m) c') (xs.length + m) (xs ++ vs)) (hg : W.grownBy w1 sv.ownBlock) :
 RepS (fun y => B ≤ y) (w1.setCell ⟨b, 4, none⟩ (.slice A' (xs.length + m) c')) (.node d (forest (acc ++ l)) .no) [.pointer (some ⟨b, 0, none⟩)] := by
 have hne : sv.ownBlock ≠ some b := Tr.own_blk_ne h.kn.own h.kn.blk (by decide)
 have hb1 : Tr.Blk w1 b 42 (cellsN d sv) := h.kn.blk.grown hg (fun e => hne e.symm)
 have hgb := Tr.own_blk_ne hown hb1 (by decide)
 have hb2 := hb1.set_ 4 (.slice A' (xs.length + m) c')
 rw [Tr.cellsN_set] at hb2
 have hkeep : ∀ y, (B ≤ y ∧ y ≠ b ∧ sv.ownBlock ≠ some y) → y < W.heap.size → (w1.setCell ⟨b, 4, none⟩ (.slice A' (xs.length + m) c')).heap[y]? = W.heap[y]? := by
  intro y hy hl
  obtain ⟨x1, x2, x3⟩ := hy
  rw [Below.heap_setCell w1 ⟨b, 4, none⟩ _ y x2]
  exact hg.block y hl (fun e => x3 e.symm)
 have hr : RepS (fun y => B ≤ y) (w1.setCell ⟨b, 4, none⟩ (.slice A' (xs.length + m) c')) (forest (acc ++ l)) (xs ++ vs) :=
  (St.rep_app hl h.rep).keep (by simp; exact hg.size) hkeep fun y hy _ => hy.1
 have ho : (w1.setCell ⟨b, 4, none⟩ (.slice A' (xs.length + m) c')).ownsRow B 26 1 (.slice A' (xs.length + m) c') (xs ++ vs).length (xs ++ vs) := by
  have e : (xs ++ vs).length = xs.length + m := by rw [List.length_append, hm]
  rw [e]
  exact hown.kept (Tr.setCell_grown _ _ _) (.inr hgb)
 exact RepS.mk hb2 ho hr h.kn.low (fun g hg => (ho.lt g hg).1)
theorem and_pos {α β : Type} {K : Except Nat (α × Nat)} {f : α → PT → Par β} {L : List PT} : andK K (fun d => posP (f d)) L = andK K (fun d => f d (tk L (posE K))) L := by
 rcases K with k | ⟨x, j⟩ <;> rfl
theorem and_bind {α β : Type} {p : Par α} {q : α → Par β} {L : List PT} {i : Nat} : bindP p q L i = andK (p L i) q L := by
 unfold bindP andK
 all_goals (cases p L i <;> rfl)
theorem KU.done {w0 : World} {A : Option Addr} {c : Nat} {L : List PT} {res : Except Nat (T1 × Nat)} (h : KU w.heap.size w1 b d sv K xs) (hq : QG w0 w w1 br A c L (posE K) (badE K)) (hs : res = andK K (fun acc => retP (d, forest acc)) L) :
 RefU w.heap.size w0 w br A c L res (.returned (.pointer (some ⟨b, 0, none⟩))) w1 := by
 subst hs
 rcases K with k | ⟨acc, j⟩
 ·exact ⟨_, rfl, hq.1, hq.2, (fun x j e => by cases e)⟩
 ·exact ⟨_, rfl, hq.1, hq.2, (fun x j e => by cases e; exact (h.good acc _ rfl).done (Nat.le_refl _))⟩
end
section
variable {w0 w wr : World} {br c : Nat} {A : Option Addr} {L : List PT} {K : Except Nat (List T1 × Nat)} {p : Par T1}
theorem QG.pushed (h : QG w0 w wr br A c L (posE (goK K p L)) (badE (goK K p L))) : QG w0 w wr br A c L (posE (pushK K (goK K p L))) (badE (pushK K (goK K p L))) := by
 rw [pos_push.1, pos_push.2]; exact h
end
set_option maxRecDepth 100000 in set_option maxHeartbeats 6400000 in
theorem node7 {B : Nat} {w : World} (hB : B ≤ w.heap.size) (kI : Int) (k : Nat) (hk : kI = (k : Int)) (p1 p2 : Nat) :
 Calls Try.prog 39 #[.int .u8 kI, .complex .f64 (fl p1) (fl p2)] w fun e w' => ∃ b, e = .returned (.pointer (some ⟨b, 0, none⟩)) ∧ Below w.heap.size w w' ∧ KG B B w' b ⟨k, (p1, p2), sNil, 0⟩ (.slice none 0 0) [] [] ∧ w.heap.size ≤ b := by
 subst hk
 have N0 := qh (show NB w (w.alloc (.cells #[.int .u8 k, .complex .f64 (fl p1) (fl p2), .string sNil, .int .i64 0, .slice none 0 0] 42)) w.heap.size ⟨k, (p1, p2), sNil, 0⟩ (.slice none 0 0) [] from NB.start w ⟨k, (p1, p2), sNil, 0⟩)
 go_enter Try.func39, Try.ntmps39
 go_wp2
 go_ret
 exact ⟨_, rfl, N0.out.bel, (KG.start0 (B0 := B) N0.out).lower hB, N0.out.low⟩
set_option maxRecDepth 100000 in set_option maxHeartbeats 6400000 in
theorem bbody {w0 : World} {br c : Nat} {A : Option Addr} {L : List PT} (ht : Toks w0 br A L) : BdOK 18 w0 br A c L := by
 intro j hj w h
 have H := qh (QG.start h)
 have N1 := qh (rnow_any ht (i := j) (by omega) w h)
 obtain ⟨k, p1, p2, q1, q2, t, n, e1, e2⟩ := val_form (tk L j)
 rw [e2] at N1
 clear e1 e2 h ht
 go_enter Try.func18, Try.ntmps18
 go_wp2_with fail
 ((with_reducible refine N1.out.mono ?_); rintro e w1 ⟨rfl, hb⟩)
 have H := qh (H.out.below hb)
 have NW := qh (node7 (w := w1) (Nat.le_refl _) 46 46 rfl p1 p2)
 clear hb N1
 go_wp2_with fail
 ((with_reducible refine NW.out.mono ?_); rintro e w2 ⟨b, rfl, hb, _⟩)
 have H := qh (H.out.below hb)
 clear hb NW
 go_wp2_with fail
 go_loopw [] (fun wr => Hid (QG w0 w wr br A c L j true)) (fun _ => 0)
 case atStart => exact H
 case round =>
  clear H
  obtain ⟨m1, f1, m2, f2, hlt⟩ := hrel.out.1.at_
  clear m1 f1 f2
  go_wp2
  go_ret
  exact ⟨_, rfl, hrel.out.1, hrel.out.2⟩
open St (sSem sAsg sCol sBar sIf sThen sElsif sElse sEnd sCase sOf sWhile sDo sRepeat sUntil sLoop sExit sFor sTo sBy sWith sReturn isWd6)
def words9 : List ByteArray := [sIf, sCase, sWhile, sRepeat, sLoop, sExit, sFor, sWith, sReturn]
def begB (L : List PT) (j : Nat) : Bool := decide ((tk L j).1.kind = 1) || words9.any (fun s => isT L j s)
theorem held_s {x y : World} {bo m : Nat} {v : Value} (h : x.cell? ⟨bo, m, none⟩ = some v) (hb : Below x.heap.size x y) (hl : bo < x.heap.size) : y.cell? ⟨bo, m, none⟩ = some v := (hb.cell (p := ⟨bo, m, none⟩) hl).trans h
theorem w9 : words9.length = 9 := rfl
set_option maxRecDepth 100000 in set_option maxHeartbeats 6400000 in
theorem rbegins {w0 : World} {br c : Nat} {A : Option Addr} {L : List PT} (ht : Toks w0 br A L) (ok : OKRow L) (j : Nat) (hj : j ≤ 60000) (w : World) (h : QInv w0 w br A c L j false) :
 Calls Try.prog 41 #[.pointer (some ⟨br, 0, none⟩)] w fun e w' => e = .returned (.bool (begB L j)) ∧ Below w.heap.size w w' := by
 have N1 := qh (rnow_any ht (i := j) (by omega) w h)
 have WD := qh (fun s hs w h => rwordT (c := c) ht (i := j) (by omega) s w ok hs h)
 obtain ⟨k, p1, p2, q1, q2, t, n, e1, e2⟩ := val_form (tk L j)
 rw [e2] at N1
 have HB := qh (show begB L j = (decide (k = 1) || words9.any (fun s => isT L j s)) by unfold begB; rw [e1])
 have H := qh h
 clear e1 e2 h ht ok
 generalize begB L j = res at *
 go_enter Try.func41, Try.ntmps41
 by_cases hk : k = 1
 ·subst hk
  go_wp2_with fail
  ((with_reducible refine N1.out.mono ?_); rintro e w1 ⟨rfl, hb⟩)
  have HW := qh (hb.alloc hb.size (.cells #[.int .u8 1, .complex .f64 (fl p1) (fl p2), .complex .f64 (fl q1) (fl q2), .string t, .int .i64 n] 68))
  go_wp2
  go_ret
  exact ⟨by rw [HB.out]; rfl, hb⟩
 ·have k1 : ((k : Int) == 1) = false := by simp only [beq_eq_false_iff_ne, ne_eq]; omega
  have HB2 := qh (show res = words9.any (fun s => isT L j s) by rw [HB.out, decide_eq_false hk, Bool.false_or])
  go_wp2_with fail
  ((with_reducible refine N1.out.mono ?_); rintro e w1 ⟨rfl, hb⟩)
  have H := qh (H.out.below hb)
  have HW := qh hb
  clear hb N1 HB
  go_wp2_with fail
  go_loopw [4] (fun iv wr => ∃ m : Nat, m ≤ 9 ∧ iv = .int .i64 m ∧ Hid (Below w.heap.size w wr ∧ QInv w0 wr br A c L j false ∧ Lx.Blk wr w1.heap.size 9 #[.string sIf, .string sCase, .string sWhile, .string sRepeat, .string sLoop, .string sExit, .string sFor, .string sWith, .string sReturn] ∧ ∀ x < m, isT L j (words9.getD x sNil) = false)) (fun iv _ => 9 - (intOf iv).toNat)
  case atStart =>
   have ha := (Below.refl w1.heap.size w1).alloc (Nat.le_refl _) (.cells #[.string sIf, .string sCase, .string sWhile, .string sRepeat, .string sLoop, .string sExit, .string sFor, .string sWith, .string sReturn] 9)
   exact ⟨0, by omega, rfl, qh ⟨HW.out.trans (ha.mono HW.out.size), H.out.below ha, Lx.Blk.new _ _ _, fun x hx => by omega⟩⟩
  case round =>
   obtain ⟨m, hm, rfl, hR⟩ := hrel
   clear H HW
   by_cases hm9 : m < 9
   ·have hc := hR.out.2.2.1.cell m
    have hlt0 := hR.out.2.2.1.lt
    have HQ := qh hR.out.2.1
    have x1 : (m : Int) < 9 := by omega
    have x2 : ¬ (m : Int) < 0 := by omega
    obtain ⟨s, hs⟩ : ∃ s, s = words9.getD m sNil := ⟨_, rfl⟩
    have hc2 : wr.cell? ⟨w1.heap.size, m, none⟩ = some (.string s) := by
     rw [hc, hs]
     have : ∀ m, m < 9 → (#[.string sIf, .string sCase, .string sWhile, .string sRepeat, .string sLoop, .string sExit, .string sFor, .string sWith, .string sReturn] : Array Value)[m]? = some (.string (words9.getD m sNil)) := by
      intro m hm
      iterate 9 (rcases m with _ | m; · rfl)
      omega
     exact this m hm9
    have hL : Lx.isL (s.data.toList.head?.getD 0) = true := by
     rw [hs]
     have : ∀ m, m < 9 → Lx.isL ((words9.getD m sNil).data.toList.head?.getD 0) = true := by decide
     exact this m hm9
    have HWD := qh (fun w h => WD.out s hL w h)
    have HS := qh hs
    have HBW := qh hR.out.1
    have HBK := qh hR.out.2.2.1
    have HNO := qh hR.out.2.2.2
    clear hc hs hL WD hR
    obtain ⟨wo, rfl⟩ : ∃ wo : World, wo = wr := ⟨_, rfl⟩
    have hc2d : wo.drew.cell? ⟨w1.heap.size, m, none⟩ = some (.string s) := hc2
    have D1 := qh (HWD.out wo.drew (HQ.out.below ((Below.refl _ _).drew)))
    go_wp2
    go_region_held3 (fun w' => w'.cell? ⟨w1.heap.size, m, none⟩ = some (.string s))
     ((first | (with_reducible exact hc2) | (with_reducible exact hc2d) | (with_reducible assumption) | (exact held_s hc2d (by assumption) hlt0)))
     ((go_at_call 59; (with_reducible refine D1.out.mono ?_); rintro e wg ⟨rfl, hb⟩))
    have hsz := hb.size
    have HQ2 := qh ((HQ.out.below ((Below.refl _ _).drew)).below hb)
    have HBW2 := qh (HBW.out.trans (((Below.refl wo.heap.size wo).drew.trans hb).mono HBW.out.size))
    have HBK2 := qh (HBK.out.below ((Below.refl wo.heap.size wo).drew.trans hb) hlt0)
    clear hc2 hc2d HQ HBW HBK hb hsz
    cases hv : isT L j s with
    | false =>
      have HNO2 := qh (show ∀ x < m + 1, isT L j (words9.getD x sNil) = false from fun x hx => by
       rcases Nat.lt_or_ge x m with h | h
       ·exact HNO.out x h
       ·have : x = m := by omega
        subst this; rw [← HS.out]; exact hv)
      clear hv D1
      go_wp2
      go_roundw
      case rel => exact ⟨m + 1, by omega, by go_num, qh ⟨HBW2.out, HQ2.out, HBK2.out, HNO2.out⟩⟩
      case measure => simp [intOf]; omega
    | true =>
      have HR := qh (show res = true by
       rw [HB2.out, List.any_eq_true]
       exact ⟨s, by rw [HS.out, List.getD_eq_getElem?_getD, List.getElem?_eq_getElem (show m < words9.length from hm9)]; exact List.getElem_mem _, hv⟩)
      clear hv D1
      go_wp2
      go_ret
      exact ⟨ret_bool (by rw [HR.out]), HBW2.out⟩
   ·have HR := qh (show res = false by
     have hm' : m = 9 := by omega
     subst hm'
     rw [HB2.out, List.any_eq_false]
     intro s hs
     obtain ⟨x, hx, e⟩ := List.getElem_of_mem hs
     have := hR.out.2.2.2 x hx
     rw [List.getD_eq_getElem?_getD, List.getElem?_eq_getElem hx] at this
     rw [← e]
     simpa using this)
    have HBW := qh hR.out.1
    have x1 : ¬ (m : Int) < 9 := by omega
    clear hR
    go_wp2
    go_ret
    exact ⟨ret_bool (by rw [HR.out]), HBW.out⟩
end Go.Proofs.Ytecmjhohniipoaa.Rs
end
