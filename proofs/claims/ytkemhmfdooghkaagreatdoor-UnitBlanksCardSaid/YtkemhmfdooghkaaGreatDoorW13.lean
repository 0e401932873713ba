/- A part of the proof: T1, T2, T3, T4, T5, T6. -/
import Derived.Test.YtkemhmfdooghkaaGreatDoorW8
import Derived.Test.YtkemhmfdooghkaaGreatDoorW1
import Derived.Test.YtkemhmfdooghkaaGreatDoorProg
import Derived.Deep.QuietTactic
import Derived.BigQuiet
import Derived.Laws.Rows
set_option linter.unusedSimpArgs false
set_option linter.unusedVariables false
set_option maxRecDepth 100000
set_option maxHeartbeats 6400000
namespace Go.Proofs.YtkemhmfdooghkaaGreatDoor.Tr
open Go.RowKit
open Fl
structure Nd where
 kind : Nat
 pos : Nat × Nat
 name : ByteArray
 n : Int
inductive Fo where
 | no : Fo
 | node (d : Nd) (kids rest : Fo) : Fo
def Fo.len : Fo → Nat
 | .no => 0
 | .node _ _ r => r.len + 1
def Fo.count : Fo → Nat
 | .no => 0
 | .node _ k r => 1 + k.count + r.count
def Fo.same : Fo → Fo → Bool
 | .no, .no => true
 | .node d k r, .node d' k' r' => decide (d.kind = d'.kind) && decide (d.name = d'.name) && decide (d.n = d'.n) && k.same k' && r.same r'
 | _, _ => false
def Fo.exact : Fo → Fo → Bool
 | .no, .no => true
 | .node d k r, .node d' k' r' => decide (d.kind = d'.kind) && decide (d.name = d'.name) && decide (d.n = d'.n) && decide (d.pos = d'.pos) && k.exact k' && r.exact r'
 | _, _ => false
theorem Fo.same_len : ∀ f g : Fo, f.same g = true → f.len = g.len
 | .no, .no, _ => rfl
 | .no, .node .., h => by simp [Fo.same] at h
 | .node .., .no, h => by simp [Fo.same] at h
 | .node _ k r, .node _ k' r', h => by
   simp only [Fo.same, Bool.and_eq_true] at h
   have := Fo.same_len r r' h.2
   simp [Fo.len, this]
theorem Fo.same_refl : ∀ f : Fo, f.same f = true
 | .no => rfl
 | .node d k r => by simp [Fo.same, Fo.same_refl k, Fo.same_refl r]
def C (p : Nat × Nat) : Value := .complex .f64 (fl p.1) (fl p.2)
def At (w : World) (b : Nat) (d : Nd) (s : Value) : Prop :=
 w.cell? ⟨b, 0, none⟩ = some (.int .u8 d.kind) ∧ w.cell? ⟨b, 1, none⟩ = some (C d.pos) ∧ w.cell? ⟨b, 2, none⟩ = some (.string d.name) ∧ w.cell? ⟨b, 3, none⟩ = some (.int .i64 d.n) ∧ w.cell? ⟨b, 4, none⟩ = some s
def Rep (w : World) : Fo → List Value → Prop
 | .no, vs => vs = []
 | .node d k r, vs => ∃ b A c ks vs', vs = .pointer (some ⟨b, 0, none⟩) :: vs' ∧ At w b d (.slice A ks.length c) ∧ Reads w w.heap.size 1 A ks.length ks ∧ Rep w k ks ∧ Rep w r vs'
theorem cell_lt {w : World} {b o : Nat} {v : Value} (h : w.cell? ⟨b, o, none⟩ = some v) : b < w.heap.size := by
 rcases Nat.lt_or_ge b w.heap.size with h1 | h1
 ·exact h1
 ·unfold World.cell? at h
  simp [Array.getElem?_eq_none h1] at h
theorem At.lt {w : World} {b : Nat} {d : Nd} {s : Value} (h : At w b d s) : b < w.heap.size := cell_lt h.1
theorem At.below {w w' : World} {b : Nat} {d : Nd} {s : Value} (h : At w b d s) (hb : Below w.heap.size w w') : At w' b d s := by
 have hl := h.lt
 obtain ⟨h0, h1, h2, h3, h4⟩ := h
 exact ⟨(hb.cell (p := ⟨b, 0, none⟩) hl).trans h0, (hb.cell (p := ⟨b, 1, none⟩) hl).trans h1, (hb.cell (p := ⟨b, 2, none⟩) hl).trans h2, (hb.cell (p := ⟨b, 3, none⟩) hl).trans h3, (hb.cell (p := ⟨b, 4, none⟩) hl).trans h4⟩
theorem Rep.len {w : World} : ∀ {f : Fo} {vs : List Value}, Rep w f vs → vs.length = f.len
 | .no, vs, h => by unfold Rep at h; subst h; rfl
 | .node d k r, vs, h => by
   unfold Rep at h
   obtain ⟨b, A, c, ks, vs', rfl, _, _, _, h5⟩ := h
   simp [Fo.len, Rep.len h5]
theorem Rep.below {w w' : World} (hb : Below w.heap.size w w') : ∀ {f : Fo} {vs : List Value}, Rep w f vs → Rep w' f vs
 | .no, vs, h => by unfold Rep at h ⊢; exact h
 | .node d k r, vs, h => by
   unfold Rep at h ⊢
   obtain ⟨b, A, c, ks, vs', h1, h2, h3, h4, h5⟩ := h
   exact ⟨b, A, c, ks, vs', h1, h2.below hb, (h3.below hb).more hb.size, Rep.below hb h4, Rep.below hb h5⟩
theorem Rep.drewN {w : World} (n : Nat) {f : Fo} {vs : List Value} (h : Rep w f vs) : Rep (w.drewN n) f vs := h.below (below_drewN (Below.refl _ _) n)
theorem Rep.head {w : World} {d : Nd} {k r : Fo} {vs : List Value} (h : Rep w (.node d k r) vs) : ∃ v vs', vs = v :: vs' ∧ Rep w (.node d k .no) [v] ∧ Rep w r vs' := by
 unfold Rep at h
 obtain ⟨b, A, c, ks, vs', rfl, h2, h3, h4, h5⟩ := h
 exact ⟨_, _, rfl, ⟨b, A, c, ks, [], rfl, h2, h3, h4, rfl⟩, h5⟩
theorem Rep.one {w : World} {d : Nd} {k : Fo} {v : Value} (h : Rep w (.node d k .no) [v]) : ∃ b A c ks, v = .pointer (some ⟨b, 0, none⟩) ∧ At w b d (.slice A ks.length c) ∧ Reads w w.heap.size 1 A ks.length ks ∧ Rep w k ks := by
 unfold Rep at h
 obtain ⟨b, A, c, ks, vs', h1, h2, h3, h4, h5⟩ := h
 simp only [List.cons.injEq] at h1
 exact ⟨b, A, c, ks, h1.1, h2, h3, h4⟩
theorem Rep.at_ {w : World} {f : Fo} {vs : List Value} {i : Nat} (h : Rep w f (vs.drop i)) (hi : i < vs.length) : ∃ d k r, f = .node d k r ∧ Rep w (.node d k .no) [vs[i]] ∧ Rep w r (vs.drop (i + 1)) := by
 cases f with
 | no => unfold Rep at h; simp at h; omega
 | node d k r =>
   obtain ⟨v, vs', e, h1, h2⟩ := h.head
   rw [List.drop_eq_getElem_cons hi] at e
   simp only [List.cons.injEq] at e
   obtain ⟨rfl, rfl⟩ := e
   exact ⟨d, k, r, rfl, h1, h2⟩
theorem Rep.end_ {w : World} {f : Fo} {vs : List Value} {i : Nat} (h : Rep w f (vs.drop i)) (hi : ¬ i < vs.length) : f = .no := by
 cases f with
 | no => rfl
 | node d k r =>
   obtain ⟨v, vs', e, h1, h2⟩ := h.head
   rw [List.drop_eq_nil_of_le (by omega)] at e
   cases e
theorem Reads.nth {w : World} {B : Nat} {A : Option Addr} {vs : List Value} {i : Nat} (h : Reads w B 1 A vs.length vs) (hi : i < vs.length) : ∃ b off, A = some ⟨b, off, none⟩ ∧ w.cell? ⟨b, off + i, none⟩ = some vs[i] := by
 obtain ⟨b, off, u, e, _, hx, hc⟩ := h.spot hi
 rw [List.getElem?_eq_getElem hi] at hx
 injection hx with hx
 subst hx
 exact ⟨b, off, e, hc⟩
theorem Reads.len_le {w : World} {B : Nat} {A : Option Addr} {f : Fo} {vs : List Value} (h : Rep w f vs) : vs.length ≤ f.count := by
 rw [h.len]
 clear h
 induction f with
 | no => simp [Fo.len]
 | node d k r ih1 ih2 => simp [Fo.len, Fo.count]; omega
theorem Fo.same_cons (d d' : Nd) (k r k' r' : Fo) : (Fo.node d k r).same (.node d' k' r') = ((Fo.node d k .no).same (.node d' k' .no) && r.same r') := by simp [Fo.same]
theorem Fo.same_one {d d' : Nd} {k k' : Fo} (h1 : d.kind = d'.kind) (h2 : d.name = d'.name) (h3 : d.n = d'.n) : (Fo.node d k .no).same (.node d' k' .no) = k.same k' := by simp [Fo.same, h1, h2, h3]
theorem Fo.same_no {d d' : Nd} {k k' : Fo} (h : d.kind ≠ d'.kind ∨ d.name ≠ d'.name ∨ d.n ≠ d'.n ∨ k.len ≠ k'.len) : (Fo.node d k .no).same (.node d' k' .no) = false := by
 cases hs : (Fo.node d k .no).same (.node d' k' .no) with
 | false => rfl
 | true =>
   simp only [Fo.same, Bool.and_eq_true, decide_eq_true_eq] at hs
   have := Fo.same_len _ _ hs.1.2
   exact absurd h (by simp [hs.1.1.1.1, hs.1.1.1.2, hs.1.1.2, this])
theorem toList_ne {a b : ByteArray} (h : a ≠ b) : (a.toList == b.toList) = false := by
 rw [beq_eq_false_iff_ne]
 intro e
 apply h
 rw [ByteArray.toList_eq, ByteArray.toList_eq] at e
 exact ByteArray.ext (Array.toList_inj.1 e)
theorem At.drewN {w : World} {b : Nat} {d : Nd} {s : Value} (n : Nat) (h : At w b d s) : At (w.drewN n) b d s := h
theorem rsame_1 (d : Nd) (k : Fo) (d' : Nd) (k' : Fo) (v v' : Value) (w : World) (hr : Rep w (.node d k .no) [v]) (hr' : Rep w (.node d' k' .no) [v']) (e1 : d.kind ≠ d'.kind) :
 Calls Tryz.prog 14 #[v, v'] w fun e w' => e = .returned (.bool false) ∧ ∃ m, w' = w.drewN m := by
 obtain ⟨b, A, c, ks, rfl, ⟨a0, a1, a2, a3, a4⟩, hA, hk⟩ := hr.one
 obtain ⟨b', A', c', ks', rfl, ⟨a0', a1', a2', a3', a4'⟩, hA', hk'⟩ := hr'.one
 have t1 : ((d.kind : Int) != (d'.kind : Int)) = true := by simp; omega
 clear hA hk hA' hk' hr hr' e1
 go_enter Tryz.func14, Tryz.ntmps14
 go_wp2
 go_quiet (fail)
 go_wp2
 go_ret
 exact ⟨rfl, _, rfl⟩
theorem rsame_2 (d : Nd) (k : Fo) (d' : Nd) (k' : Fo) (v v' : Value) (w : World) (hr : Rep w (.node d k .no) [v]) (hr' : Rep w (.node d' k' .no) [v']) (e1 : d.kind = d'.kind) (e2 : d.name ≠ d'.name) :
 Calls Tryz.prog 14 #[v, v'] w fun e w' => e = .returned (.bool false) ∧ ∃ m, w' = w.drewN m := by
 obtain ⟨b, A, c, ks, rfl, ⟨a0, a1, a2, a3, a4⟩, hA, hk⟩ := hr.one
 obtain ⟨b', A', c', ks', rfl, ⟨a0', a1', a2', a3', a4'⟩, hA', hk'⟩ := hr'.one
 have t1 : ((d.kind : Int) != (d'.kind : Int)) = false := by simp [e1]
 have t2 : (d.name.toList == d'.name.toList) = false := by exact toList_ne e2
 clear hA hk hA' hk' hr hr' e1 e2
 go_enter Tryz.func14, Tryz.ntmps14
 go_wp2
 go_quiet (fail)
 go_wp2
 go_ret
 exact ⟨rfl, _, rfl⟩
theorem rsame_3 (d : Nd) (k : Fo) (d' : Nd) (k' : Fo) (v v' : Value) (w : World) (hr : Rep w (.node d k .no) [v]) (hr' : Rep w (.node d' k' .no) [v']) (e1 : d.kind = d'.kind) (e2 : d.name = d'.name) (e3 : d.n ≠ d'.n) :
 Calls Tryz.prog 14 #[v, v'] w fun e w' => e = .returned (.bool false) ∧ ∃ m, w' = w.drewN m := by
 obtain ⟨b, A, c, ks, rfl, ⟨a0, a1, a2, a3, a4⟩, hA, hk⟩ := hr.one
 obtain ⟨b', A', c', ks', rfl, ⟨a0', a1', a2', a3', a4'⟩, hA', hk'⟩ := hr'.one
 have t1 : ((d.kind : Int) != (d'.kind : Int)) = false := by simp [e1]
 have t2 : (d.name.toList == d'.name.toList) = true := by simp [e2]
 have t3 : (d.n != d'.n) = true := by simpa using e3
 clear hA hk hA' hk' hr hr' e1 e2 e3
 go_enter Tryz.func14, Tryz.ntmps14
 go_wp2
 go_quiet (fail)
 go_wp2
 go_ret
 exact ⟨rfl, _, rfl⟩
theorem rsame_4 (d : Nd) (k : Fo) (d' : Nd) (k' : Fo) (v v' : Value) (w : World) (hr : Rep w (.node d k .no) [v]) (hr' : Rep w (.node d' k' .no) [v']) (e1 : d.kind = d'.kind) (e2 : d.name = d'.name) (e3 : d.n = d'.n) (e4 : k.len ≠ k'.len) :
 Calls Tryz.prog 14 #[v, v'] w fun e w' => e = .returned (.bool false) ∧ ∃ m, w' = w.drewN m := by
 obtain ⟨b, A, c, ks, rfl, ⟨a0, a1, a2, a3, a4⟩, hA, hk⟩ := hr.one
 obtain ⟨b', A', c', ks', rfl, ⟨a0', a1', a2', a3', a4'⟩, hA', hk'⟩ := hr'.one
 rw [← hk.len, ← hk'.len] at e4
 have t1 : ((d.kind : Int) != (d'.kind : Int)) = false := by simp [e1]
 have t2 : (d.name.toList == d'.name.toList) = true := by simp [e2]
 have t3 : (d.n != d'.n) = false := by simp [e3]
 have t4 : ((ks.length : Int) != (ks'.length : Int)) = true := by simp; omega
 clear hA hk hA' hk' hr hr' e1 e2 e3 e4
 go_enter Tryz.func14, Tryz.ntmps14
 go_wp2
 go_quiet (fail)
 go_wp2
 go_ret
 exact ⟨rfl, _, rfl⟩
theorem rsame_any (N : Nat) : ∀ (d : Nd) (k : Fo) (d' : Nd) (k' : Fo) (v v' : Value) (w : World), (Fo.node d k .no).count ≤ N → (Fo.node d k .no).count ≤ 1000000 → Rep w (.node d k .no) [v] → Rep w (.node d' k' .no) [v'] →
 Calls Tryz.prog 14 #[v, v'] w fun e w' => e = .returned (.bool ((Fo.node d k .no).same (.node d' k' .no))) ∧ ∃ m, w' = w.drewN m := by
 induction N with
 | zero => intro d k d' k' v v' w h; simp [Fo.count] at h
 | succ N ih =>
   intro d k d' k' v v' w hN hc hr hr'
   by_cases e1 : d.kind = d'.kind
   case neg => rw [Fo.same_no (.inl e1)]; exact rsame_1 d k d' k' v v' w hr hr' e1
   by_cases e2 : d.name = d'.name
   case neg => rw [Fo.same_no (.inr (.inl e2))]; exact rsame_2 d k d' k' v v' w hr hr' e1 e2
   by_cases e3 : d.n = d'.n
   case neg => rw [Fo.same_no (.inr (.inr (.inl e3)))]; exact rsame_3 d k d' k' v v' w hr hr' e1 e2 e3
   by_cases e4 : k.len = k'.len
   case neg => rw [Fo.same_no (.inr (.inr (.inr e4)))]; exact rsame_4 d k d' k' v v' w hr hr' e1 e2 e3 e4
   obtain ⟨b, A, c, ks, rfl, hat, hA, hk⟩ := hr.one
   obtain ⟨b', A', c', ks', rfl, hat', hA', hk'⟩ := hr'.one
   obtain ⟨a0, a1, a2, a3, a4⟩ := id hat
   obtain ⟨a0', a1', a2', a3', a4'⟩ := id hat'
   have hle := Reads.len_le (B := 0) (A := none) hk
   simp only [Fo.count] at hN hc
   have HE := qh (show (Fo.node d k .no).same (.node d' k' .no) = k.same k' from Fo.same_one e1 e2 e3)
   have HAT := qh hat
   have HAT' := qh hat'
   have hkl := hk.len
   have hkl' := hk'.len
   have hll : ks'.length = ks.length := by omega
   have t1 : ((d.kind : Int) != (d'.kind : Int)) = false := by simp [e1]
   have t2 : (d.name.toList == d'.name.toList) = true := by simp [e2]
   have t3 : (d.n != d'.n) = false := by simp [e3]
   rw [hll] at hA' a4' HAT'
   have t4 : ((ks.length : Int) != (ks.length : Int)) = false := by simp
   have HLL := qh hll
   have HA := qh hA
   have HA' := qh hA'
   have HK := qh hk
   have HK' := qh hk'
   have IH := qh ih
   clear hA hA' hk hk' hr hr' ih hat hat' hll hkl hkl' e1 e2 e3 e4
   go_enter Tryz.func14, Tryz.ntmps14
   go_wp2
   go_quiet (fail)
   go_wp2
   go_loopw [5] (fun i wr => ∃ (j : Nat) (f f' : Fo), j ≤ ks.length ∧ i = .int .i64 j ∧ f.count ≤ k.count ∧ Hid (k.same k' = f.same f') ∧ Hid (Rep wr f (ks.drop j)) ∧ Hid (Rep wr f' (ks'.drop j)) ∧ Hid (Reads wr wr.heap.size 1 A ks.length ks) ∧ Hid (Reads wr wr.heap.size 1 A' ks.length ks') ∧ Hid (At wr b d (.slice A ks.length c)) ∧ Hid (At wr b' d' (.slice A' ks.length c')) ∧ Hid (∃ m, wr = w.drewN m)) (fun i _ => ks.length - (intOf i).toNat)
   case atStart => exact ⟨0, k, k', Nat.zero_le _, rfl, Nat.le_refl _, qh rfl, qh (Rep.drewN _ HK.out), qh (Rep.drewN _ HK'.out), qh HA.out, qh HA'.out, qh HAT.out, qh HAT'.out, qh ⟨_, rfl⟩⟩
   case round =>
    obtain ⟨j, f, f', hj, rfl, hfc, HS, HR, HR', HB, HB', HT, HT', HW⟩ := hrel
    clear a0 a1 a2 a3 a4 a0' a1' a2' a3' a4'
    obtain ⟨a0, a1, a2, a3, a4⟩ := HT.out
    obtain ⟨a0', a1', a2', a3', a4'⟩ := HT'.out
    by_cases hlt : j < ks.length
    ·obtain ⟨d1, k1, r1, rfl, g1, g2⟩ := HR.out.at_ hlt
     obtain ⟨d2, k2, r2, rfl, g1', g2'⟩ := HR'.out.at_ (by rw [HLL.out]; exact hlt)
     obtain ⟨b1, off, rfl, hcell⟩ := Reads.nth HB.out hlt
     obtain ⟨b2, off', rfl, hcell'⟩ := Reads.nth (vs := ks') (by rw [HLL.out]; exact HB'.out) (i := j) (by rw [HLL.out]; exact hlt)
     simp only [Fo.count] at hfc
     have c1 := fun (W : World) (g : Rep W (.node d1 k1 .no) [ks[j]]) (g' : Rep W (.node d2 k2 .no) [ks'[j]'(by rw [HLL.out]; exact hlt)]) => IH.out d1 k1 d2 k2 _ _ W (by simp [Fo.count]; omega) (by simp [Fo.count]; omega) g g'
     have G1 := qh g1
     have G1' := qh g1'
     have G2 := qh g2
     have G2' := qh g2'
     have hi0 : (0 : Int) ≤ (j : Int) := by omega
     have hi1 : (j : Int) < (ks.length : Int) := by omega
     clear g1 g1' g2 g2' HR HR'
     generalize ks[j] = u at *
     generalize ks'[j]'(by rw [HLL.out]; exact hlt) = u' at *
     cases hz : (Fo.node d1 k1 .no).same (.node d2 k2 .no)
     ·rw [hz] at c1
      have C1 := qh c1
      have HF := qh (show k.same k' = false by rw [HS.out, Fo.same_cons, hz]; rfl)
      clear c1 hz HS
      go_wp2
      go_quiet ((go_at_call 14; exact Calls.quiet_of (C1.out _ (Rep.drewN _ G1.out) (Rep.drewN _ G1'.out))))
      go_wp2
      go_ret
      obtain ⟨m, hm⟩ := HW.out
      subst hm
      exact ⟨by rw [HE.out, HF.out] <;> rfl, _, World.drewN_drewN _ _ _⟩
     ·rw [hz] at c1
      have C1 := qh c1
      have HF := qh (show k.same k' = r1.same r2 by rw [HS.out, Fo.same_cons, hz]; rfl)
      clear c1 hz HS
      go_wp2
      go_quiet ((go_at_call 14; exact Calls.quiet_of (C1.out _ (Rep.drewN _ G1.out) (Rep.drewN _ G1'.out))))
      go_wp2
      go_roundw
      case rel =>
       refine ⟨j + 1, r1, r2, by omega, by go_num, by omega, HF, qh (Rep.drewN _ G2.out), qh (Rep.drewN _ G2'.out), qh HB.out, qh HB'.out, qh HT.out, qh HT'.out, qh ?_⟩
       obtain ⟨m, hm⟩ := HW.out
       subst hm
       exact ⟨_, World.drewN_drewN _ _ _⟩
      case measure => simp [intOf]; omega
    ·have he := HR.out.end_ hlt
     have he' := HR'.out.end_ (by rw [HLL.out]; exact hlt)
     subst he he'
     have HF := qh (show k.same k' = true by rw [HS.out]; rfl)
     clear HR HR' HS
     go_wp2
     go_ret
     obtain ⟨m, hm⟩ := HW.out
     exact ⟨by rw [HE.out, HF.out] <;> rfl, m, hm⟩
def Blk (w : World) (g : Nat) (t : TypeId) (cs : Array Value) : Prop := w.heap[g]? = some (.cells cs t (0, 0))
section
variable {w w' : World} {g : Nat} {t : TypeId} {cs : Array Value}
theorem Blk.lt (h : Blk w g t cs) : g < w.heap.size := by
 rcases Nat.lt_or_ge g w.heap.size with hlt | hge
 ·exact hlt
 ·unfold Blk at h; rw [Array.getElem?_eq_none hge] at h; cases h
theorem Blk.cell (h : Blk w g t cs) (i : Nat) : w.cell? ⟨g, i, none⟩ = cs[i]? := cell_of_row w g i cs t (0, 0) h
theorem Blk.frozen (h : Blk w g t cs) (i : Nat) : w.frozen? ⟨g, i, none⟩ = false := by
 unfold Blk at h
 simp [World.frozen?, h]
theorem Blk.new (w : World) (t : TypeId) (cs : Array Value) : Blk (w.alloc (.cells cs t)) w.heap.size t cs := heap_alloc_new w _
theorem Blk.drew (h : Blk w g t cs) : Blk w.drew g t cs := h
theorem Blk.drewN (h : Blk w g t cs) (n : Nat) : Blk (w.drewN n) g t cs := h
theorem Blk.alloc (h : Blk w g t cs) (o : Obj) : Blk (w.alloc o) g t cs := (Below.heap_alloc w o g h.lt).trans h
theorem Blk.set_ (h : Blk w g t cs) (i : Nat) (u : Value) : Blk (w.setCell ⟨g, i, none⟩ u) g t (cs.setIfInBounds i u) := by
 unfold Blk at h ⊢
 simp [World.setCell, Array.getElem?_modify, h]
theorem Blk.far (h : Blk w g t cs) {p : Addr} (hp : g ≠ p.block) (u : Value) : Blk (w.setCell p u) g t cs := (Below.heap_setCell w p u g hp).trans h
theorem Blk.below {B : Nat} (h : Blk w g t cs) (hb : Below B w w') (hg : g < B) : Blk w' g t cs := (hb.block g hg).trans h
theorem Blk.grown {row : Option Nat} (h : Blk w g t cs) (hb : w.grownBy w' row) (hg : some g ≠ row) : Blk w' g t cs := (hb.block g h.lt hg).trans h
theorem Blk.ne_ {g' : Nat} {t' : TypeId} {cs' : Array Value} (h : Blk w g t cs) (h' : Blk w g' t' cs') (hne : t ≠ t') : g ≠ g' := by
 rintro rfl
 unfold Blk at h h'
 rw [h] at h'
 injection h' with h'
 injection h' with _ ht
 exact hne ht
theorem own_blk_ne {base : Nat} {e : TypeId} {size n : Nat} {v : Value} {xs : List Value} (h : w.ownsRow base e size v n xs) (hg : Blk w g t cs) (hne : e ≠ t) : v.ownBlock ≠ some g := by
 rcases h.2 with ⟨rfl, _⟩ | ⟨g', cap, cur, rfl, _, hh, _⟩
 ·simp [Value.ownBlock]
 ·intro he
  have : g' = g := by simpa [Value.ownBlock] using he
  subst this
  exact Blk.ne_ (t := e) hh hg hne rfl
end
def cellsN (d : Nd) (s : Value) : Array Value := #[.int .u8 d.kind, C d.pos, .string d.name, .int .i64 d.n, s]
theorem Blk.at_ {w : World} {b : Nat} {d : Nd} {s : Value} (h : Blk w b 38 (cellsN d s)) : At w b d s :=
 ⟨h.cell 0, h.cell 1, h.cell 2, h.cell 3, h.cell 4⟩
def RepS (S : Nat → Prop) (w : World) : Fo → List Value → Prop
 | .no, vs => vs = []
 | .node d k r, vs => ∃ b A c ks vs', vs = .pointer (some ⟨b, 0, none⟩) :: vs' ∧ S b ∧ At w b d (.slice A ks.length c) ∧ (0 < ks.length → ∃ g off, A = some ⟨g, off, none⟩ ∧ S g ∧ g < w.heap.size) ∧ Reads w w.heap.size 1 A ks.length ks ∧ RepS S w k ks ∧ RepS S w r vs'
theorem RepS.rep {S : Nat → Prop} {w : World} : ∀ {f : Fo} {vs : List Value}, RepS S w f vs → Rep w f vs
 | .no, vs, h => by unfold RepS at h; unfold Rep; exact h
 | .node d k r, vs, h => by
   unfold RepS at h; unfold Rep
   obtain ⟨b, A, c, ks, vs', h1, h2, h3, h4, h5, h6, h7⟩ := h
   exact ⟨b, A, c, ks, vs', h1, h3, h5, RepS.rep h6, RepS.rep h7⟩
theorem RepS.keep {S S' : Nat → Prop} {w w' : World} (hsz : w.heap.size ≤ w'.heap.size) (hk : ∀ x, S x → x < w.heap.size → w'.heap[x]? = w.heap[x]?) (hS : ∀ x, S x → x < w.heap.size → S' x) : ∀ {f : Fo} {vs : List Value}, RepS S w f vs → RepS S' w' f vs
 | .no, vs, h => by unfold RepS at h ⊢; exact h
 | .node d k r, vs, h => by
   unfold RepS at h ⊢
   obtain ⟨b, A, c, ks, vs', h1, h2, h3, h4, h5, h6, h7⟩ := h
   have hb := hk b h2 h3.lt
   have hc : ∀ o, w'.cell? ⟨b, o, none⟩ = w.cell? ⟨b, o, none⟩ := fun o => World.cell?_of_block hb
   refine ⟨b, A, c, ks, vs', h1, hS b h2 h3.lt, ?_, fun h0 => ?_, ⟨h5.1, fun h0 => ?_⟩, RepS.keep hsz hk hS h6, RepS.keep hsz hk hS h7⟩
   ·obtain ⟨a0, a1, a2, a3, a4⟩ := h3
    exact ⟨(hc 0).trans a0, (hc 1).trans a1, (hc 2).trans a2, (hc 3).trans a3, (hc 4).trans a4⟩
   ·obtain ⟨g, off, e, hg, hl⟩ := h4 h0
    exact ⟨g, off, e, hS g hg hl, by omega⟩
   ·obtain ⟨g, off, e, hg, hl⟩ := h4 h0
    obtain ⟨ad, e2, hlt, hcl⟩ := h5.2 h0
    rw [e] at e2
    injection e2 with e2
    subst e2
    refine ⟨_, e, by simp; omega, fun j u hu => ?_⟩
    rw [← hcl j u hu]
    refine World.cell?_of_block ?_
    rw [block_of_add]
    exact hk g hg hl
theorem RepS.below {S : Nat → Prop} {w w' : World} (hb : Below w.heap.size w w') {f : Fo} {vs : List Value} (h : RepS S w f vs) : RepS S w' f vs :=
 h.keep hb.size (fun x _ hx => hb.block x hx) (fun x hx _ => hx)
theorem RepS.more {S S' : Nat → Prop} {w : World} {f : Fo} {vs : List Value} (h : RepS S w f vs) (hS : ∀ x, S x → x < w.heap.size → S' x) : RepS S' w f vs :=
 h.keep (Nat.le_refl _) (fun _ _ _ => rfl) hS
def Fo.snoc : Fo → Nd → Fo → Fo
 | .no, d, k => .node d k .no
 | .node d' k' r, d, k => .node d' k' (r.snoc d k)
theorem RepS.snoc {S : Nat → Prop} {w : World} {d : Nd} {k : Fo} {v : Value} (h2 : RepS S w (.node d k .no) [v]) : ∀ {f : Fo} {vs : List Value}, RepS S w f vs → RepS S w (f.snoc d k) (vs ++ [v])
 | .no, vs, h => by unfold RepS at h; subst h; exact h2
 | .node d' k' r, vs, h => by
   unfold RepS at h
   obtain ⟨b, A, c, ks, vs', rfl, g2, g3, g4, g5, g6, g7⟩ := h
   show RepS S w (.node d' k' (r.snoc d k)) _
   unfold RepS
   exact ⟨b, A, c, ks, vs' ++ [v], rfl, g2, g3, g4, g5, g6, RepS.snoc h2 g7⟩
theorem RepS.mk {S : Nat → Prop} {w : World} {b base : Nat} {d : Nd} {s : Value} {f : Fo} {xs : List Value} (hb : Blk w b 38 (cellsN d s)) (hown : w.ownsRow base 31 1 s xs.length xs) (hk : RepS S w f xs) (hSb : S b) (hSr : ∀ g, s.ownBlock = some g → S g) :
 RepS S w (.node d f .no) [.pointer (some ⟨b, 0, none⟩)] := by
 obtain ⟨A, c, rfl, hR⟩ := own_form hown
 unfold RepS
 refine ⟨b, A, c, xs, [], rfl, hSb, hb.at_, fun h0 => ?_, hR, hk, rfl⟩
 obtain ⟨g, cap, hv, _, hlt⟩ := hown.form h0
 have hA : A = some ⟨g, 0, none⟩ := by injection hv
 subst hA
 exact ⟨g, 0, rfl, hSr g rfl, hlt⟩
def Apart (S : Nat → Prop) (w0 : World) (b : Nat) (sv : Value) : Nat → Prop := fun x => (S x ∨ w0.heap.size ≤ x) ∧ x ≠ b ∧ sv.ownBlock ≠ some x
def Bld (S : Nat → Prop) (w0 w : World) (b : Nat) (d : Nd) (sv : Value) (f : Fo) (xs : List Value) : Prop :=
 Blk w b 38 (cellsN d sv) ∧ w.ownsRow w0.heap.size 31 1 sv xs.length xs ∧ RepS (Apart S w0 b sv) w f xs ∧ w0.heap.size ≤ b ∧ Below w0.heap.size w0 w
theorem grown_below {w w' : World} (h : Below w.heap.size w w') (row : Option Nat) : w.grownBy w' row := ⟨h.os, h.tape, h.output, h.size, fun k hk _ => h.block k hk⟩
theorem Bld.below {S : Nat → Prop} {w0 w w' : World} {b : Nat} {d : Nd} {sv : Value} {f : Fo} {xs : List Value} (h : Bld S w0 w b d sv f xs) (hb : Below w.heap.size w w') : Bld S w0 w' b d sv f xs := by
 obtain ⟨h1, h2, h3, h4, h5⟩ := h
 refine ⟨h1.below hb h1.lt, h2.kept (grown_below hb none) ?_, h3.below hb, h4, h5.trans (hb.mono h5.size)⟩
 rcases h : sv.ownBlock with _ | g
 ·exact .inl rfl
 ·exact .inr (by simp)
theorem Bld.start {S : Nat → Prop} {w0 w : World} {b : Nat} {d : Nd} (h : Blk w b 38 (cellsN d (.slice none 0 0))) (hb : w0.heap.size ≤ b) (hw : Below w0.heap.size w0 w) : Bld S w0 w b d (.slice none 0 0) .no [] :=
 ⟨h, ⟨by simp, .inl ⟨rfl, rfl⟩⟩, by unfold RepS; rfl, hb, hw⟩
theorem Bld.sv {S : Nat → Prop} {w0 w : World} {b : Nat} {d : Nd} {sv : Value} {f : Fo} {xs : List Value} (h : Bld S w0 w b d sv f xs) : w.cell? ⟨b, 4, none⟩ = some sv ∧ w.frozen? ⟨b, 4, none⟩ = false ∧ b < w.heap.size := by
 obtain ⟨h1, h2, h3, h4, h5⟩ := h
 exact ⟨h1.cell 4, h1.frozen 4, h1.lt⟩
theorem setCell_grown (w : World) (p : Addr) (u : Value) : w.grownBy (w.setCell p u) (some p.block) :=
 ⟨rfl, rfl, rfl, by simp, fun k hk hne => Below.heap_setCell w p u k (fun e => hne (by rw [e]))⟩
theorem cellsN_set (d : Nd) (s s' : Value) : (cellsN d s).setIfInBounds 4 s' = cellsN d s' := rfl
theorem Bld.step {S : Nat → Prop} {w0 W w1 : World} {b g cap : Nat} {d dk : Nd} {sv v : Value} {f k : Fo} {xs : List Value} (h : Bld S w0 W b d sv f xs) (hk : RepS (Apart S w0 b sv) W (.node dk k .no) [v])
 (hown : w1.ownsRow w0.heap.size 31 1 (.slice (some ⟨g, 0, none⟩) (xs.length + 1) cap) (xs.length + 1) (xs ++ [v])) (hg : W.grownBy w1 sv.ownBlock) (hor : sv.ownBlock = some g ∨ g = W.heap.size) :
 Bld S w0 (w1.setCell ⟨b, 4, none⟩ (.slice (some ⟨g, 0, none⟩) (xs.length + 1) cap)) b d (.slice (some ⟨g, 0, none⟩) (xs.length + 1) cap) (f.snoc dk k) (xs ++ [v]) := by
 obtain ⟨h1, h2, h3, h4, h5⟩ := h
 have hlt := h1.lt
 have hne : sv.ownBlock ≠ some b := own_blk_ne h2 h1 (by decide)
 have hb1 : Blk w1 b 38 (cellsN d sv) := h1.grown hg (fun e => hne e.symm)
 have hgb : g ≠ b := by
  have := own_blk_ne hown hb1 (by decide)
  intro e; subst e; exact this rfl
 have hg0 : w0.heap.size ≤ g := (hown.lt g rfl).1
 have hb5 : Below w0.heap.size w0 w1 := h5.grown hg h5.size (fun k hk => (h2.lt k hk).1)
 refine ⟨?_, ?_, ?_, h4, hb5.setCell h4 _⟩
 ·have := hb1.set_ 4 (.slice (some ⟨g, 0, none⟩) (xs.length + 1) cap)
  rwa [cellsN_set] at this
 ·rw [List.length_append, List.length_singleton]
  exact hown.kept (setCell_grown _ _ _) (.inr (by show some g ≠ some b; simpa using hgb))
 ·have hS : ∀ x, Apart S w0 b sv x → x < W.heap.size → Apart S w0 b (.slice (some ⟨g, 0, none⟩) (xs.length + 1) cap) x := by
   intro x hx hl
   obtain ⟨x1, x2, x3⟩ := hx
   refine ⟨x1, x2, ?_⟩
   show some g ≠ some x
   intro e
   injection e with e
   subst e
   rcases hor with hor | hor
   ·exact x3 hor
   ·omega
  have hkeep : ∀ x, Apart S w0 b sv x → x < W.heap.size → (w1.setCell ⟨b, 4, none⟩ (.slice (some ⟨g, 0, none⟩) (xs.length + 1) cap)).heap[x]? = W.heap[x]? := by
   intro x hx hl
   obtain ⟨x1, x2, x3⟩ := hx
   rw [Below.heap_setCell w1 ⟨b, 4, none⟩ _ x x2]
   exact hg.block x hl (fun e => x3 e.symm)
  exact RepS.snoc (hk.keep (by simp; exact hg.size) hkeep hS) (h3.keep (by simp; exact hg.size) hkeep hS)
theorem Bld.done {S : Nat → Prop} {w0 w : World} {b : Nat} {d : Nd} {sv : Value} {f : Fo} {xs : List Value} (h : Bld S w0 w b d sv f xs) : RepS (fun x => S x ∨ w0.heap.size ≤ x) w (.node d f .no) [.pointer (some ⟨b, 0, none⟩)] := by
 obtain ⟨h1, h2, h3, h4, h5⟩ := h
 exact RepS.mk h1 h2 (h3.more fun x hx _ => hx.1) (.inr h4) (fun g hg => .inr (h2.lt g hg).1)
theorem Bld.own {S : Nat → Prop} {w0 w : World} {b : Nat} {d : Nd} {sv : Value} {f : Fo} {xs : List Value} (h : Bld S w0 w b d sv f xs) : w.ownsRow w0.heap.size 31 1 sv xs.length xs := by
 obtain ⟨_, h, _⟩ := h; exact h
theorem Bld.bel {S : Nat → Prop} {w0 w : World} {b : Nat} {d : Nd} {sv : Value} {f : Fo} {xs : List Value} (h : Bld S w0 w b d sv f xs) : Below w0.heap.size w0 w := by
 obtain ⟨_, _, _, _, h⟩ := h; exact h
theorem Bld.low {S : Nat → Prop} {w0 w : World} {b : Nat} {d : Nd} {sv : Value} {f : Fo} {xs : List Value} (h : Bld S w0 w b d sv f xs) : w0.heap.size ≤ b := by
 obtain ⟨_, _, _, h, _⟩ := h; exact h
theorem Bld.newer {S : Nat → Prop} {w0 w w' : World} {b : Nat} {d dk : Nd} {sv v : Value} {f k : Fo} {xs : List Value} (h : Bld S w0 w b d sv f xs) (hk : RepS (fun x => w.heap.size ≤ x) w' (.node dk k .no) [v]) : RepS (Apart S w0 b sv) w' (.node dk k .no) [v] := by
 obtain ⟨h1, h2, h3, h4, h5⟩ := h
 have hlt := h1.lt
 have hs := h5.size
 refine hk.more fun x hx _ => ⟨.inr (by omega), by omega, fun e => ?_⟩
 have := (h2.lt x e).2
 omega
theorem Bld.older {S : Nat → Prop} {w0 w w' : World} {b : Nat} {d dk : Nd} {sv v : Value} {f k : Fo} {xs : List Value} (h : Bld S w0 w b d sv f xs) (hk : RepS (fun x => S x ∧ x < w0.heap.size) w' (.node dk k .no) [v]) : RepS (Apart S w0 b sv) w' (.node dk k .no) [v] := by
 obtain ⟨h1, h2, h3, h4, h5⟩ := h
 refine hk.more fun x hx _ => ⟨.inl hx.1, by omega, fun e => ?_⟩
 have := (h2.lt x e).1
 omega
theorem info31 : (Tryz.prog.info? 31).map (fun i => (i.zero, i.size, i.bytes)) = some (some (.pointer none), 1, 8) := by kernel_rfl
def zeroN : Nd := ⟨0, (0, 0), ⟨#[]⟩, 0⟩
end Go.Proofs.YtkemhmfdooghkaaGreatDoor.Tr
