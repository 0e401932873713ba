/- A part of the proof: T3, T4, T5, T6. -/
import Derived.Test.YtecmjhohniipoaaZ1
import Derived.Test.YtecmjhohniipoaaZ3
import Derived.Deep.QuietTactic
import Derived.BigQuiet
import Derived.Laws.Rows
set_option linter.unusedSimpArgs false
set_option linter.unusedVariables false

section
namespace Go.Proofs.Ytecmjhohniipoaa.Tr
open Go.RowKit
open Fl
theorem Fo.same_cons (d d' : Nd) (k r k' r' : Fo) : (Fo.node d k r).same (.node d' k' r') = ((Fo.node d k .no).same (.node d' k' .no) && r.same r') := by simp [Fo.same]
theorem Fo.exact_cons (d d' : Nd) (k r k' r' : Fo) : (Fo.node d k r).exact (.node d' k' r') = ((Fo.node d k .no).exact (.node d' k' .no) && r.exact r') := by simp [Fo.exact]
theorem Fo.same_one {d d' : Nd} {k k' : Fo} (h1 : d.kind = d'.kind) (h2 : d.name = d'.name) (h3 : d.n = d'.n) : (Fo.node d k .no).same (.node d' k' .no) = k.same k' := by simp [Fo.same, h1, h2, h3]
theorem Fo.same_no {d d' : Nd} {k k' : Fo} (h : d.kind ≠ d'.kind ∨ d.name ≠ d'.name ∨ d.n ≠ d'.n ∨ k.len ≠ k'.len) : (Fo.node d k .no).same (.node d' k' .no) = false := by
 cases hs : (Fo.node d k .no).same (.node d' k' .no) with
 | false => rfl
 | true =>
   simp only [Fo.same, Bool.and_eq_true, decide_eq_true_eq] at hs
   have := Fo.same_len _ _ hs.1.2
   exact absurd h (by simp [hs.1.1.1.1, hs.1.1.1.2, hs.1.1.2, this])
theorem Fo.exact_one {d d' : Nd} {k k' : Fo} (h : (Fo.node d k .no).same (.node d' k' .no) = true) (h4 : d.pos = d'.pos) : (Fo.node d k .no).exact (.node d' k' .no) = k.exact k' := by
 simp only [Fo.same, Bool.and_eq_true, decide_eq_true_eq] at h
 simp [Fo.exact, h.1.1.1.1, h.1.1.1.2, h.1.1.2, h4]
theorem Fo.exact_no {d d' : Nd} {k k' : Fo} (h : (Fo.node d k .no).same (.node d' k' .no) = false ∨ d.pos ≠ d'.pos) : (Fo.node d k .no).exact (.node d' k' .no) = false := by
 cases hs : (Fo.node d k .no).exact (.node d' k' .no) with
 | false => rfl
 | true =>
   have h2 := Fo.exact_same _ _ hs
   simp only [Fo.exact, Bool.and_eq_true, decide_eq_true_eq] at hs
   rcases h with h | h
   ·rw [h2] at h; cases h
   ·exact absurd hs.1.1.2 h
theorem toList_ne {a b : ByteArray} (h : a ≠ b) : (a.toList == b.toList) = false := by
 rw [beq_eq_false_iff_ne]
 intro e
 apply h
 rw [ByteArray.toList_eq, ByteArray.toList_eq] at e
 exact ByteArray.ext (Array.toList_inj.1 e)
theorem At.drewN {w : World} {b : Nat} {d : Nd} {s : Value} (n : Nat) (h : At w b d s) : At (w.drewN n) b d s := h
theorem same_pos (a q : Nat × Nat) (h1 : a.1 < 4294967296) (h2 : a.2 < 4294967296) (h3 : q.1 < 4294967296) (h4 : q.2 < 4294967296) :
 ((FloatKind.f64.format.order (fl a.1) (fl q.1) == some .eq) && (FloatKind.f64.format.order (fl a.2) (fl q.2) == some .eq)) = decide (a = q) := by
 rw [fl_order _ _ (by omega) (by omega), fl_order _ _ (by omega) (by omega), Bool.eq_iff_iff]
 simp only [Bool.and_eq_true, beq_iff_eq, Option.some.injEq, Nat.compare_eq_eq, decide_eq_true_eq]
 exact ⟨fun h => Prod.ext h.1 h.2, fun h => by rw [h]; exact ⟨rfl, rfl⟩⟩
set_option maxHeartbeats 1600000 in
theorem rsame_1 (d : Nd) (k : Fo) (d' : Nd) (k' : Fo) (v v' : Value) (w : World) (hr : Rep w (.node d k .no) [v]) (hr' : Rep w (.node d' k' .no) [v']) (e1 : d.kind ≠ d'.kind) :
 Calls Try.prog 14 #[v, v'] w fun e w' => e = .returned (.bool false) ∧ ∃ m, w' = w.drewN m := by
 obtain ⟨b, A, c, ks, rfl, ⟨a0, a1, a2, a3, a4⟩, hA, hk⟩ := hr.one
 obtain ⟨b', A', c', ks', rfl, ⟨a0', a1', a2', a3', a4'⟩, hA', hk'⟩ := hr'.one
 have t1 : ((d.kind : Int) != (d'.kind : Int)) = true := by simp; omega
 clear hA hk hA' hk' hr hr' e1
 go_enter Try.func14, Try.ntmps14
 go_wp2
 go_quiet (fail)
 go_wp2
 go_ret
 exact ⟨rfl, _, rfl⟩
set_option maxHeartbeats 1600000 in
theorem rsame_2 (d : Nd) (k : Fo) (d' : Nd) (k' : Fo) (v v' : Value) (w : World) (hr : Rep w (.node d k .no) [v]) (hr' : Rep w (.node d' k' .no) [v']) (e1 : d.kind = d'.kind) (e2 : d.name ≠ d'.name) :
 Calls Try.prog 14 #[v, v'] w fun e w' => e = .returned (.bool false) ∧ ∃ m, w' = w.drewN m := by
 obtain ⟨b, A, c, ks, rfl, ⟨a0, a1, a2, a3, a4⟩, hA, hk⟩ := hr.one
 obtain ⟨b', A', c', ks', rfl, ⟨a0', a1', a2', a3', a4'⟩, hA', hk'⟩ := hr'.one
 have t1 : ((d.kind : Int) != (d'.kind : Int)) = false := by simp [e1]
 have t2 : (d.name.toList == d'.name.toList) = false := by exact toList_ne e2
 clear hA hk hA' hk' hr hr' e1 e2
 go_enter Try.func14, Try.ntmps14
 go_wp2
 go_quiet (fail)
 go_wp2
 go_ret
 exact ⟨rfl, _, rfl⟩
set_option maxHeartbeats 1600000 in
theorem rsame_3 (d : Nd) (k : Fo) (d' : Nd) (k' : Fo) (v v' : Value) (w : World) (hr : Rep w (.node d k .no) [v]) (hr' : Rep w (.node d' k' .no) [v']) (e1 : d.kind = d'.kind) (e2 : d.name = d'.name) (e3 : d.n ≠ d'.n) :
 Calls Try.prog 14 #[v, v'] w fun e w' => e = .returned (.bool false) ∧ ∃ m, w' = w.drewN m := by
 obtain ⟨b, A, c, ks, rfl, ⟨a0, a1, a2, a3, a4⟩, hA, hk⟩ := hr.one
 obtain ⟨b', A', c', ks', rfl, ⟨a0', a1', a2', a3', a4'⟩, hA', hk'⟩ := hr'.one
 have t1 : ((d.kind : Int) != (d'.kind : Int)) = false := by simp [e1]
 have t2 : (d.name.toList == d'.name.toList) = true := by simp [e2]
 have t3 : (d.n != d'.n) = true := by simpa using e3
 clear hA hk hA' hk' hr hr' e1 e2 e3
 go_enter Try.func14, Try.ntmps14
 go_wp2
 go_quiet (fail)
 go_wp2
 go_ret
 exact ⟨rfl, _, rfl⟩
set_option maxHeartbeats 1600000 in
theorem rsame_4 (d : Nd) (k : Fo) (d' : Nd) (k' : Fo) (v v' : Value) (w : World) (hr : Rep w (.node d k .no) [v]) (hr' : Rep w (.node d' k' .no) [v']) (e1 : d.kind = d'.kind) (e2 : d.name = d'.name) (e3 : d.n = d'.n) (e4 : k.len ≠ k'.len) :
 Calls Try.prog 14 #[v, v'] w fun e w' => e = .returned (.bool false) ∧ ∃ m, w' = w.drewN m := by
 obtain ⟨b, A, c, ks, rfl, ⟨a0, a1, a2, a3, a4⟩, hA, hk⟩ := hr.one
 obtain ⟨b', A', c', ks', rfl, ⟨a0', a1', a2', a3', a4'⟩, hA', hk'⟩ := hr'.one
 rw [← hk.len, ← hk'.len] at e4
 have t1 : ((d.kind : Int) != (d'.kind : Int)) = false := by simp [e1]
 have t2 : (d.name.toList == d'.name.toList) = true := by simp [e2]
 have t3 : (d.n != d'.n) = false := by simp [e3]
 have t4 : ((ks.length : Int) != (ks'.length : Int)) = true := by simp; omega
 clear hA hk hA' hk' hr hr' e1 e2 e3 e4
 go_enter Try.func14, Try.ntmps14
 go_wp2
 go_quiet (fail)
 go_wp2
 go_ret
 exact ⟨rfl, _, rfl⟩
set_option maxHeartbeats 3200000 in
theorem rsame_any (N : Nat) : ∀ (d : Nd) (k : Fo) (d' : Nd) (k' : Fo) (v v' : Value) (w : World), (Fo.node d k .no).count ≤ N → (Fo.node d k .no).count ≤ 1000000 → Rep w (.node d k .no) [v] → Rep w (.node d' k' .no) [v'] →
 Calls Try.prog 14 #[v, v'] w fun e w' => e = .returned (.bool ((Fo.node d k .no).same (.node d' k' .no))) ∧ ∃ m, w' = w.drewN m := by
 induction N with
 | zero => intro d k d' k' v v' w h; simp [Fo.count] at h
 | succ N ih =>
   intro d k d' k' v v' w hN hc hr hr'
   by_cases e1 : d.kind = d'.kind
   case neg => rw [Fo.same_no (.inl e1)]; exact rsame_1 d k d' k' v v' w hr hr' e1
   by_cases e2 : d.name = d'.name
   case neg => rw [Fo.same_no (.inr (.inl e2))]; exact rsame_2 d k d' k' v v' w hr hr' e1 e2
   by_cases e3 : d.n = d'.n
   case neg => rw [Fo.same_no (.inr (.inr (.inl e3)))]; exact rsame_3 d k d' k' v v' w hr hr' e1 e2 e3
   by_cases e4 : k.len = k'.len
   case neg => rw [Fo.same_no (.inr (.inr (.inr e4)))]; exact rsame_4 d k d' k' v v' w hr hr' e1 e2 e3 e4
   obtain ⟨b, A, c, ks, rfl, hat, hA, hk⟩ := hr.one
   obtain ⟨b', A', c', ks', rfl, hat', hA', hk'⟩ := hr'.one
   obtain ⟨a0, a1, a2, a3, a4⟩ := id hat
   obtain ⟨a0', a1', a2', a3', a4'⟩ := id hat'
   have hle := Reads.len_le (B := 0) (A := none) hk
   simp only [Fo.count] at hN hc
   have HE := qh (show (Fo.node d k .no).same (.node d' k' .no) = k.same k' from Fo.same_one e1 e2 e3)
   have HAT := qh hat
   have HAT' := qh hat'
   have hkl := hk.len
   have hkl' := hk'.len
   have hll : ks'.length = ks.length := by omega
   have t1 : ((d.kind : Int) != (d'.kind : Int)) = false := by simp [e1]
   have t2 : (d.name.toList == d'.name.toList) = true := by simp [e2]
   have t3 : (d.n != d'.n) = false := by simp [e3]
   rw [hll] at hA' a4' HAT'
   have t4 : ((ks.length : Int) != (ks.length : Int)) = false := by simp
   have HLL := qh hll
   have HA := qh hA
   have HA' := qh hA'
   have HK := qh hk
   have HK' := qh hk'
   have IH := qh ih
   clear hA hA' hk hk' hr hr' ih hat hat' hll hkl hkl' e1 e2 e3 e4
   go_enter Try.func14, Try.ntmps14
   go_wp2
   go_quiet (fail)
   go_wp2
   go_loopw [5] (fun i wr => ∃ (j : Nat) (f f' : Fo), j ≤ ks.length ∧ i = .int .i64 j ∧ f.count ≤ k.count ∧ Hid (k.same k' = f.same f') ∧ Hid (Rep wr f (ks.drop j)) ∧ Hid (Rep wr f' (ks'.drop j)) ∧ Hid (Reads wr wr.heap.size 1 A ks.length ks) ∧ Hid (Reads wr wr.heap.size 1 A' ks.length ks') ∧ Hid (At wr b d (.slice A ks.length c)) ∧ Hid (At wr b' d' (.slice A' ks.length c')) ∧ Hid (∃ m, wr = w.drewN m)) (fun i _ => ks.length - (intOf i).toNat)
   case atStart => exact ⟨0, k, k', Nat.zero_le _, rfl, Nat.le_refl _, qh rfl, qh (Rep.drewN _ HK.out), qh (Rep.drewN _ HK'.out), qh HA.out, qh HA'.out, qh HAT.out, qh HAT'.out, qh ⟨_, rfl⟩⟩
   case round =>
    obtain ⟨j, f, f', hj, rfl, hfc, HS, HR, HR', HB, HB', HT, HT', HW⟩ := hrel
    clear a0 a1 a2 a3 a4 a0' a1' a2' a3' a4'
    obtain ⟨a0, a1, a2, a3, a4⟩ := HT.out
    obtain ⟨a0', a1', a2', a3', a4'⟩ := HT'.out
    by_cases hlt : j < ks.length
    ·obtain ⟨d1, k1, r1, rfl, g1, g2⟩ := HR.out.at_ hlt
     obtain ⟨d2, k2, r2, rfl, g1', g2'⟩ := HR'.out.at_ (by rw [HLL.out]; exact hlt)
     obtain ⟨b1, off, rfl, hcell⟩ := Reads.nth HB.out hlt
     obtain ⟨b2, off', rfl, hcell'⟩ := Reads.nth (vs := ks') (by rw [HLL.out]; exact HB'.out) (i := j) (by rw [HLL.out]; exact hlt)
     simp only [Fo.count] at hfc
     have c1 := fun (W : World) (g : Rep W (.node d1 k1 .no) [ks[j]]) (g' : Rep W (.node d2 k2 .no) [ks'[j]'(by rw [HLL.out]; exact hlt)]) => IH.out d1 k1 d2 k2 _ _ W (by simp [Fo.count]; omega) (by simp [Fo.count]; omega) g g'
     have G1 := qh g1
     have G1' := qh g1'
     have G2 := qh g2
     have G2' := qh g2'
     have hi0 : (0 : Int) ≤ (j : Int) := by omega
     have hi1 : (j : Int) < (ks.length : Int) := by omega
     clear g1 g1' g2 g2' HR HR'
     generalize ks[j] = u at *
     generalize ks'[j]'(by rw [HLL.out]; exact hlt) = u' at *
     cases hz : (Fo.node d1 k1 .no).same (.node d2 k2 .no)
     ·rw [hz] at c1
      have C1 := qh c1
      have HF := qh (show k.same k' = false by rw [HS.out, Fo.same_cons, hz]; rfl)
      clear c1 hz HS
      go_wp2
      go_quiet ((go_at_call 14; exact Calls.quiet_of (C1.out _ (Rep.drewN _ G1.out) (Rep.drewN _ G1'.out))))
      go_wp2
      go_ret
      obtain ⟨m, hm⟩ := HW.out
      subst hm
      exact ⟨by rw [HE.out, HF.out] <;> rfl, _, World.drewN_drewN _ _ _⟩
     ·rw [hz] at c1
      have C1 := qh c1
      have HF := qh (show k.same k' = r1.same r2 by rw [HS.out, Fo.same_cons, hz]; rfl)
      clear c1 hz HS
      go_wp2
      go_quiet ((go_at_call 14; exact Calls.quiet_of (C1.out _ (Rep.drewN _ G1.out) (Rep.drewN _ G1'.out))))
      go_wp2
      go_roundw
      case rel =>
       refine ⟨j + 1, r1, r2, by omega, by go_num, by omega, HF, qh (Rep.drewN _ G2.out), qh (Rep.drewN _ G2'.out), qh HB.out, qh HB'.out, qh HT.out, qh HT'.out, qh ?_⟩
       obtain ⟨m, hm⟩ := HW.out
       subst hm
       exact ⟨_, World.drewN_drewN _ _ _⟩
      case measure => simp [intOf]; omega
    ·have he := HR.out.end_ hlt
     have he' := HR'.out.end_ (by rw [HLL.out]; exact hlt)
     subst he he'
     have HF := qh (show k.same k' = true by rw [HS.out]; rfl)
     clear HR HR' HS
     go_wp2
     go_ret
     obtain ⟨m, hm⟩ := HW.out
     exact ⟨by rw [HE.out, HF.out] <;> rfl, m, hm⟩
end Go.Proofs.Ytecmjhohniipoaa.Tr
end

section
namespace Go.Proofs.Ytecmjhohniipoaa.Tr
open Go.RowKit
open Fl
theorem Fo.fits_head {d : Nd} {k r : Fo} (h : (Fo.node d k r).fits) : (Fo.node d k .no).fits ∧ k.fits ∧ r.fits := by
 simp only [Fo.fits] at h ⊢
 exact ⟨⟨h.1, h.2.1, h.2.2.1, h.2.2.2.1, h.2.2.2.2.1, trivial⟩, h.2.2.2.2.1, h.2.2.2.2.2⟩
theorem Fo.fits_pos {d : Nd} {k r : Fo} (h : (Fo.node d k r).fits) : d.pos.1 < 4294967296 ∧ d.pos.2 < 4294967296 := by
 simp only [Fo.fits] at h
 exact ⟨h.2.1, h.2.2.1⟩
set_option maxHeartbeats 1600000 in
theorem exact_1 (d : Nd) (k : Fo) (d' : Nd) (k' : Fo) (v v' : Value) (w : World) (hc : (Fo.node d k .no).count ≤ 1000000) (hr : Rep w (.node d k .no) [v]) (hr' : Rep w (.node d' k' .no) [v']) (h : (Fo.node d k .no).same (.node d' k' .no) = false) :
 Calls Try.prog 12 #[v, v'] w fun e w' => e = .returned (.bool false) ∧ ∃ m, w' = w.drewN m := by
 have c1 := rsame_any _ d k d' k' v v' w (Nat.le_refl _) hc hr hr'
 rw [h] at c1
 have C1 := qh c1
 clear c1 hr hr' h hc
 go_enter Try.func12, Try.ntmps12
 go_wp2_with fail
 ((with_reducible refine C1.out.mono ?_); rintro e w' ⟨rfl, hm⟩)
 go_wp2
 go_ret
 exact ⟨rfl, hm⟩
set_option maxHeartbeats 1600000 in
theorem exact_2 (d : Nd) (k : Fo) (d' : Nd) (k' : Fo) (v v' : Value) (w : World) (hc : (Fo.node d k .no).count ≤ 1000000) (hr : Rep w (.node d k .no) [v]) (hr' : Rep w (.node d' k' .no) [v']) (h : (Fo.node d k .no).same (.node d' k' .no) = true)
 (hf : (Fo.node d k .no).fits) (hf' : (Fo.node d' k' .no).fits) (hp : d.pos ≠ d'.pos) :
 Calls Try.prog 12 #[v, v'] w fun e w' => e = .returned (.bool false) ∧ ∃ m, w' = w.drewN m := by
 have c1 := rsame_any _ d k d' k' v v' w (Nat.le_refl _) hc hr hr'
 rw [h] at c1
 have C1 := qh c1
 have sp := same_pos d.pos d'.pos (Fo.fits_pos hf).1 (Fo.fits_pos hf).2 (Fo.fits_pos hf').1 (Fo.fits_pos hf').2
 rw [show decide (d.pos = d'.pos) = false by simpa using hp] at sp
 obtain ⟨b, A, c, ks, rfl, ⟨a0, a1, a2, a3, a4⟩, hA, hk⟩ := hr.one
 obtain ⟨b', A', c', ks', rfl, ⟨a0', a1', a2', a3', a4'⟩, hA', hk'⟩ := hr'.one
 unfold C at a1 a1'
 clear c1 hr hr' h hc hf hf' hp hA hk hA' hk'
 go_enter Try.func12, Try.ntmps12
 go_wp2_with fail
 ((with_reducible refine C1.out.mono ?_); rintro e w1 ⟨rfl, hm⟩)
 obtain ⟨m, rfl⟩ := hm
 have a1 : (w.drewN m).cell? ⟨b, 1, none⟩ = some (.complex .f64 (fl d.pos.1) (fl d.pos.2)) := a1
 have a1' : (w.drewN m).cell? ⟨b', 1, none⟩ = some (.complex .f64 (fl d'.pos.1) (fl d'.pos.2)) := a1'
 have HW := qh (show ∃ n, w.drewN m = w.drewN n from ⟨m, rfl⟩)
 generalize w.drewN m = wr at *
 go_wp2
 go_quiet (fail)
 go_wp2
 go_ret
 obtain ⟨n, hn⟩ := HW.out
 subst hn
 exact ⟨rfl, _, World.drewN_drewN _ _ _⟩
set_option maxHeartbeats 3200000 in
theorem exact_any (N : Nat) : ∀ (d : Nd) (k : Fo) (d' : Nd) (k' : Fo) (v v' : Value) (w : World), (Fo.node d k .no).count ≤ N → (Fo.node d k .no).count ≤ 1000000 → (Fo.node d k .no).fits → (Fo.node d' k' .no).fits → Rep w (.node d k .no) [v] → Rep w (.node d' k' .no) [v'] →
 Calls Try.prog 12 #[v, v'] w fun e w' => e = .returned (.bool ((Fo.node d k .no).exact (.node d' k' .no))) ∧ ∃ m, w' = w.drewN m := by
 induction N with
 | zero => intro d k d' k' v v' w h; simp [Fo.count] at h
 | succ N ih =>
   intro d k d' k' v v' w hN hc hf hf' hr hr'
   cases hsm : (Fo.node d k .no).same (.node d' k' .no)
   case false => rw [Fo.exact_no (.inl hsm)]; exact exact_1 d k d' k' v v' w hc hr hr' hsm
   by_cases hp : d.pos = d'.pos
   case neg => rw [Fo.exact_no (.inr hp)]; exact exact_2 d k d' k' v v' w hc hr hr' hsm hf hf' hp
   have c1 := rsame_any _ d k d' k' v v' w (Nat.le_refl _) hc hr hr'
   rw [hsm] at c1
   have CS := qh c1
   have sp := same_pos d.pos d'.pos (Fo.fits_pos hf).1 (Fo.fits_pos hf).2 (Fo.fits_pos hf').1 (Fo.fits_pos hf').2
   rw [show decide (d.pos = d'.pos) = true by simpa using hp] at sp
   obtain ⟨b, A, c, ks, rfl, hat, hA, hk⟩ := hr.one
   obtain ⟨b', A', c', ks', rfl, hat', hA', hk'⟩ := hr'.one
   have hle := Reads.len_le (B := 0) (A := none) hk
   have hlen : k.len = k'.len := Fo.same_len _ _ (by simp only [Fo.same, Bool.and_eq_true] at hsm; exact hsm.1.2)
   have hkl := hk.len
   have hkl' := hk'.len
   have hll : ks'.length = ks.length := by omega
   rw [hll] at hA' hat'
   obtain ⟨a0, a1, a2, a3, a4⟩ := id hat
   obtain ⟨a0', a1', a2', a3', a4'⟩ := id hat'
   unfold C at a1 a1'
   simp only [Fo.count] at hN hc
   have HE := qh (show (Fo.node d k .no).exact (.node d' k' .no) = k.exact k' from Fo.exact_one hsm hp)
   have HAT := qh hat
   have HAT' := qh hat'
   have HLL := qh hll
   have HA := qh hA
   have HA' := qh hA'
   have HK := qh hk
   have HK' := qh hk'
   have IH := qh ih
   have HF := qh (Fo.fits_head hf).2.1
   have HF' := qh (Fo.fits_head hf').2.1
   clear c1 hA hA' hk hk' hr hr' ih hat hat' hll hkl hkl' hsm hp hlen hf hf'
   go_enter Try.func12, Try.ntmps12
   go_wp2_with fail
   ((with_reducible refine CS.out.mono ?_); rintro e w1 ⟨rfl, hm⟩)
   obtain ⟨m0, rfl⟩ := hm
   have hK : Rep (w.drewN m0) k ks := HK.out.drewN _
   have hK' : Rep (w.drewN m0) k' ks' := HK'.out.drewN _
   have hB : Reads (w.drewN m0) (w.drewN m0).heap.size 1 A ks.length ks := HA.out
   have hB' : Reads (w.drewN m0) (w.drewN m0).heap.size 1 A' ks.length ks' := HA'.out
   have hT : At (w.drewN m0) b d (.slice A ks.length c) := HAT.out
   have hT' : At (w.drewN m0) b' d' (.slice A' ks.length c') := HAT'.out
   clear HK HK' HA HA' HAT HAT' a0 a1 a2 a3 a4 a0' a1' a2' a3' a4'
   have HW := qh (show ∃ n, w.drewN m0 = w.drewN n from ⟨m0, rfl⟩)
   generalize w.drewN m0 = w1 at *
   have HK := qh hK
   have HK' := qh hK'
   have HA := qh hB
   have HA' := qh hB'
   have HAT := qh hT
   have HAT' := qh hT'
   obtain ⟨a0, a1, a2, a3, a4⟩ := id hT
   obtain ⟨a0', a1', a2', a3', a4'⟩ := id hT'
   unfold C at a1 a1'
   clear hK hK' hB hB' hT hT'
   go_wp2
   go_quiet (fail)
   go_wp2
   go_loopw [5] (fun i wr => ∃ (j : Nat) (f f' : Fo), j ≤ ks.length ∧ i = .int .i64 j ∧ f.count ≤ k.count ∧ Hid (k.exact k' = f.exact f') ∧ Hid f.fits ∧ Hid f'.fits ∧ Hid (Rep wr f (ks.drop j)) ∧ Hid (Rep wr f' (ks'.drop j)) ∧ Hid (Reads wr wr.heap.size 1 A ks.length ks) ∧ Hid (Reads wr wr.heap.size 1 A' ks.length ks') ∧ Hid (At wr b d (.slice A ks.length c)) ∧ Hid (At wr b' d' (.slice A' ks.length c')) ∧ Hid (∃ m, wr = w.drewN m)) (fun i _ => ks.length - (intOf i).toNat)
   case atStart =>
    refine ⟨0, k, k', Nat.zero_le _, rfl, Nat.le_refl _, qh rfl, HF, HF', qh (Rep.drewN _ HK.out), qh (Rep.drewN _ HK'.out), qh HA.out, qh HA'.out, qh HAT.out, qh HAT'.out, qh ?_⟩
    obtain ⟨m, hm⟩ := HW.out
    subst hm
    exact ⟨_, World.drewN_drewN _ _ _⟩
   case round =>
    obtain ⟨j, f, f', hj, rfl, hfc, HS, HQ, HQ', HR, HR', HB, HB', HT, HT', HV⟩ := hrel
    clear a0 a1 a2 a3 a4 a0' a1' a2' a3' a4' HW
    obtain ⟨a0, a1, a2, a3, a4⟩ := HT.out
    obtain ⟨a0', a1', a2', a3', a4'⟩ := HT'.out
    by_cases hlt : j < ks.length
    ·obtain ⟨d1, k1, r1, rfl, g1, g2⟩ := HR.out.at_ hlt
     obtain ⟨d2, k2, r2, rfl, g1', g2'⟩ := HR'.out.at_ (by rw [HLL.out]; exact hlt)
     obtain ⟨b1, off, rfl, hcell⟩ := Reads.nth HB.out hlt
     obtain ⟨b2, off', rfl, hcell'⟩ := Reads.nth (vs := ks') (by rw [HLL.out]; exact HB'.out) (i := j) (by rw [HLL.out]; exact hlt)
     simp only [Fo.count] at hfc
     have q1 := Fo.fits_head HQ.out
     have q2 := Fo.fits_head HQ'.out
     have c1 := fun (W : World) (g : Rep W (.node d1 k1 .no) [ks[j]]) (g' : Rep W (.node d2 k2 .no) [ks'[j]'(by rw [HLL.out]; exact hlt)]) => IH.out d1 k1 d2 k2 _ _ W (by simp [Fo.count]; omega) (by simp [Fo.count]; omega) q1.1 q2.1 g g'
     have G1 := qh g1
     have G1' := qh g1'
     have G2 := qh g2
     have G2' := qh g2'
     have R1 := qh q1.2.2
     have R2 := qh q2.2.2
     have hi0 : (0 : Int) ≤ (j : Int) := by omega
     have hi1 : (j : Int) < (ks.length : Int) := by omega
     clear g1 g1' g2 g2' HR HR' q1 q2 HQ HQ'
     generalize ks[j] = u at *
     generalize ks'[j]'(by rw [HLL.out]; exact hlt) = u' at *
     cases hz : (Fo.node d1 k1 .no).exact (.node d2 k2 .no)
     ·rw [hz] at c1
      have C1 := qh c1
      have HG := qh (show k.exact k' = false by rw [HS.out, Fo.exact_cons, hz]; rfl)
      clear c1 hz HS
      go_wp2
      go_quiet ((go_at_call 12; exact Calls.quiet_of (C1.out _ (Rep.drewN _ G1.out) (Rep.drewN _ G1'.out))))
      go_wp2
      go_ret
      obtain ⟨m, hm⟩ := HV.out
      subst hm
      exact ⟨by rw [HE.out, HG.out] <;> rfl, _, World.drewN_drewN _ _ _⟩
     ·rw [hz] at c1
      have C1 := qh c1
      have HG := qh (show k.exact k' = r1.exact r2 by rw [HS.out, Fo.exact_cons, hz]; rfl)
      clear c1 hz HS
      go_wp2
      go_quiet ((go_at_call 12; exact Calls.quiet_of (C1.out _ (Rep.drewN _ G1.out) (Rep.drewN _ G1'.out))))
      go_wp2
      go_roundw
      case rel =>
       refine ⟨j + 1, r1, r2, by omega, by go_num, by omega, HG, R1, R2, qh (Rep.drewN _ G2.out), qh (Rep.drewN _ G2'.out), qh HB.out, qh HB'.out, qh HT.out, qh HT'.out, qh ?_⟩
       obtain ⟨m, hm⟩ := HV.out
       subst hm
       exact ⟨_, World.drewN_drewN _ _ _⟩
      case measure => simp [intOf]; omega
    ·have he := HR.out.end_ hlt
     have he' := HR'.out.end_ (by rw [HLL.out]; exact hlt)
     subst he he'
     have HG := qh (show k.exact k' = true by rw [HS.out]; rfl)
     clear HR HR' HS HQ HQ'
     go_wp2
     go_ret
     obtain ⟨m, hm⟩ := HV.out
     exact ⟨by rw [HE.out, HG.out] <;> rfl, m, hm⟩
end Go.Proofs.Ytecmjhohniipoaa.Tr
end

section
namespace Go.Proofs.Ytecmjhohniipoaa.Tr
open Go.RowKit
open Fl
def Blk (w : World) (g : Nat) (t : TypeId) (cs : Array Value) : Prop := w.heap[g]? = some (.cells cs t (0, 0))
section
variable {w w' : World} {g : Nat} {t : TypeId} {cs : Array Value}
theorem Blk.lt (h : Blk w g t cs) : g < w.heap.size := by
 rcases Nat.lt_or_ge g w.heap.size with hlt | hge
 ·exact hlt
 ·unfold Blk at h; rw [Array.getElem?_eq_none hge] at h; cases h
theorem Blk.cell (h : Blk w g t cs) (i : Nat) : w.cell? ⟨g, i, none⟩ = cs[i]? := cell_of_row w g i cs t (0, 0) h
theorem Blk.frozen (h : Blk w g t cs) (i : Nat) : w.frozen? ⟨g, i, none⟩ = false := by
 unfold Blk at h
 simp [World.frozen?, h]
theorem Blk.new (w : World) (t : TypeId) (cs : Array Value) : Blk (w.alloc (.cells cs t)) w.heap.size t cs := heap_alloc_new w _
theorem Blk.drew (h : Blk w g t cs) : Blk w.drew g t cs := h
theorem Blk.drewN (h : Blk w g t cs) (n : Nat) : Blk (w.drewN n) g t cs := h
theorem Blk.alloc (h : Blk w g t cs) (o : Obj) : Blk (w.alloc o) g t cs := (Below.heap_alloc w o g h.lt).trans h
theorem Blk.set_ (h : Blk w g t cs) (i : Nat) (u : Value) : Blk (w.setCell ⟨g, i, none⟩ u) g t (cs.setIfInBounds i u) := by
 unfold Blk at h ⊢
 simp [World.setCell, Array.getElem?_modify, h]
theorem Blk.far (h : Blk w g t cs) {p : Addr} (hp : g ≠ p.block) (u : Value) : Blk (w.setCell p u) g t cs := (Below.heap_setCell w p u g hp).trans h
theorem Blk.below {B : Nat} (h : Blk w g t cs) (hb : Below B w w') (hg : g < B) : Blk w' g t cs := (hb.block g hg).trans h
theorem Blk.grown {row : Option Nat} (h : Blk w g t cs) (hb : w.grownBy w' row) (hg : some g ≠ row) : Blk w' g t cs := (hb.block g h.lt hg).trans h
theorem Blk.ne_ {g' : Nat} {t' : TypeId} {cs' : Array Value} (h : Blk w g t cs) (h' : Blk w g' t' cs') (hne : t ≠ t') : g ≠ g' := by
 rintro rfl
 unfold Blk at h h'
 rw [h] at h'
 injection h' with h'
 injection h' with _ ht
 exact hne ht
theorem own_blk_ne {base : Nat} {e : TypeId} {size n : Nat} {v : Value} {xs : List Value} (h : w.ownsRow base e size v n xs) (hg : Blk w g t cs) (hne : e ≠ t) : v.ownBlock ≠ some g := by
 rcases h.2 with ⟨rfl, _⟩ | ⟨g', cap, cur, rfl, _, hh, _⟩
 ·simp [Value.ownBlock]
 ·intro he
  have : g' = g := by simpa [Value.ownBlock] using he
  subst this
  exact Blk.ne_ (t := e) hh hg hne rfl
end
def cellsN (d : Nd) (s : Value) : Array Value := #[.int .u8 d.kind, C d.pos, .string d.name, .int .i64 d.n, s]
theorem Blk.at_ {w : World} {b : Nat} {d : Nd} {s : Value} (h : Blk w b 42 (cellsN d s)) : At w b d s :=
 ⟨h.cell 0, h.cell 1, h.cell 2, h.cell 3, h.cell 4⟩
def RepS (S : Nat → Prop) (w : World) : Fo → List Value → Prop
 | .no, vs => vs = []
 | .node d k r, vs => ∃ b A c ks vs', vs = .pointer (some ⟨b, 0, none⟩) :: vs' ∧ S b ∧ At w b d (.slice A ks.length c) ∧ (0 < ks.length → ∃ g off, A = some ⟨g, off, none⟩ ∧ S g ∧ g < w.heap.size) ∧ Reads w w.heap.size 1 A ks.length ks ∧ RepS S w k ks ∧ RepS S w r vs'
theorem RepS.rep {S : Nat → Prop} {w : World} : ∀ {f : Fo} {vs : List Value}, RepS S w f vs → Rep w f vs
 | .no, vs, h => by unfold RepS at h; unfold Rep; exact h
 | .node d k r, vs, h => by
   unfold RepS at h; unfold Rep
   obtain ⟨b, A, c, ks, vs', h1, h2, h3, h4, h5, h6, h7⟩ := h
   exact ⟨b, A, c, ks, vs', h1, h3, h5, RepS.rep h6, RepS.rep h7⟩
theorem RepS.keep {S S' : Nat → Prop} {w w' : World} (hsz : w.heap.size ≤ w'.heap.size) (hk : ∀ x, S x → x < w.heap.size → w'.heap[x]? = w.heap[x]?) (hS : ∀ x, S x → x < w.heap.size → S' x) : ∀ {f : Fo} {vs : List Value}, RepS S w f vs → RepS S' w' f vs
 | .no, vs, h => by unfold RepS at h ⊢; exact h
 | .node d k r, vs, h => by
   unfold RepS at h ⊢
   obtain ⟨b, A, c, ks, vs', h1, h2, h3, h4, h5, h6, h7⟩ := h
   have hb := hk b h2 h3.lt
   have hc : ∀ o, w'.cell? ⟨b, o, none⟩ = w.cell? ⟨b, o, none⟩ := fun o => World.cell?_of_block hb
   refine ⟨b, A, c, ks, vs', h1, hS b h2 h3.lt, ?_, fun h0 => ?_, ⟨h5.1, fun h0 => ?_⟩, RepS.keep hsz hk hS h6, RepS.keep hsz hk hS h7⟩
   ·obtain ⟨a0, a1, a2, a3, a4⟩ := h3
    exact ⟨(hc 0).trans a0, (hc 1).trans a1, (hc 2).trans a2, (hc 3).trans a3, (hc 4).trans a4⟩
   ·obtain ⟨g, off, e, hg, hl⟩ := h4 h0
    exact ⟨g, off, e, hS g hg hl, by omega⟩
   ·obtain ⟨g, off, e, hg, hl⟩ := h4 h0
    obtain ⟨ad, e2, hlt, hcl⟩ := h5.2 h0
    rw [e] at e2
    injection e2 with e2
    subst e2
    refine ⟨_, e, by simp; omega, fun j u hu => ?_⟩
    rw [← hcl j u hu]
    refine World.cell?_of_block ?_
    rw [block_of_add]
    exact hk g hg hl
theorem RepS.below {S : Nat → Prop} {w w' : World} (hb : Below w.heap.size w w') {f : Fo} {vs : List Value} (h : RepS S w f vs) : RepS S w' f vs :=
 h.keep hb.size (fun x _ hx => hb.block x hx) (fun x hx _ => hx)
theorem RepS.more {S S' : Nat → Prop} {w : World} {f : Fo} {vs : List Value} (h : RepS S w f vs) (hS : ∀ x, S x → x < w.heap.size → S' x) : RepS S' w f vs :=
 h.keep (Nat.le_refl _) (fun _ _ _ => rfl) hS
def Fo.snoc : Fo → Nd → Fo → Fo
 | .no, d, k => .node d k .no
 | .node d' k' r, d, k => .node d' k' (r.snoc d k)
theorem RepS.snoc {S : Nat → Prop} {w : World} {d : Nd} {k : Fo} {v : Value} (h2 : RepS S w (.node d k .no) [v]) : ∀ {f : Fo} {vs : List Value}, RepS S w f vs → RepS S w (f.snoc d k) (vs ++ [v])
 | .no, vs, h => by unfold RepS at h; subst h; exact h2
 | .node d' k' r, vs, h => by
   unfold RepS at h
   obtain ⟨b, A, c, ks, vs', rfl, g2, g3, g4, g5, g6, g7⟩ := h
   show RepS S w (.node d' k' (r.snoc d k)) _
   unfold RepS
   exact ⟨b, A, c, ks, vs' ++ [v], rfl, g2, g3, g4, g5, g6, RepS.snoc h2 g7⟩
theorem RepS.mk {S : Nat → Prop} {w : World} {b base : Nat} {d : Nd} {s : Value} {f : Fo} {xs : List Value} (hb : Blk w b 42 (cellsN d s)) (hown : w.ownsRow base 26 1 s xs.length xs) (hk : RepS S w f xs) (hSb : S b) (hSr : ∀ g, s.ownBlock = some g → S g) :
 RepS S w (.node d f .no) [.pointer (some ⟨b, 0, none⟩)] := by
 obtain ⟨A, c, rfl, hR⟩ := own_form hown
 unfold RepS
 refine ⟨b, A, c, xs, [], rfl, hSb, hb.at_, fun h0 => ?_, hR, hk, rfl⟩
 obtain ⟨g, cap, hv, _, hlt⟩ := hown.form h0
 have hA : A = some ⟨g, 0, none⟩ := by injection hv
 subst hA
 exact ⟨g, 0, rfl, hSr g rfl, hlt⟩
end Go.Proofs.Ytecmjhohniipoaa.Tr
end

section
namespace Go.Proofs.Ytecmjhohniipoaa.Tr
open Go.RowKit
open Fl
def Apart (S : Nat → Prop) (w0 : World) (b : Nat) (sv : Value) : Nat → Prop := fun x => (S x ∨ w0.heap.size ≤ x) ∧ x ≠ b ∧ sv.ownBlock ≠ some x
def Bld (S : Nat → Prop) (w0 w : World) (b : Nat) (d : Nd) (sv : Value) (f : Fo) (xs : List Value) : Prop :=
 Blk w b 42 (cellsN d sv) ∧ w.ownsRow w0.heap.size 26 1 sv xs.length xs ∧ RepS (Apart S w0 b sv) w f xs ∧ w0.heap.size ≤ b ∧ Below w0.heap.size w0 w
theorem grown_below {w w' : World} (h : Below w.heap.size w w') (row : Option Nat) : w.grownBy w' row := ⟨h.os, h.tape, h.output, h.size, fun k hk _ => h.block k hk⟩
theorem Bld.below {S : Nat → Prop} {w0 w w' : World} {b : Nat} {d : Nd} {sv : Value} {f : Fo} {xs : List Value} (h : Bld S w0 w b d sv f xs) (hb : Below w.heap.size w w') : Bld S w0 w' b d sv f xs := by
 obtain ⟨h1, h2, h3, h4, h5⟩ := h
 refine ⟨h1.below hb h1.lt, h2.kept (grown_below hb none) ?_, h3.below hb, h4, h5.trans (hb.mono h5.size)⟩
 rcases h : sv.ownBlock with _ | g
 ·exact .inl rfl
 ·exact .inr (by simp)
theorem Bld.start {S : Nat → Prop} {w0 w : World} {b : Nat} {d : Nd} (h : Blk w b 42 (cellsN d (.slice none 0 0))) (hb : w0.heap.size ≤ b) (hw : Below w0.heap.size w0 w) : Bld S w0 w b d (.slice none 0 0) .no [] :=
 ⟨h, ⟨by simp, .inl ⟨rfl, rfl⟩⟩, by unfold RepS; rfl, hb, hw⟩
theorem Bld.sv {S : Nat → Prop} {w0 w : World} {b : Nat} {d : Nd} {sv : Value} {f : Fo} {xs : List Value} (h : Bld S w0 w b d sv f xs) : w.cell? ⟨b, 4, none⟩ = some sv ∧ w.frozen? ⟨b, 4, none⟩ = false ∧ b < w.heap.size := by
 obtain ⟨h1, h2, h3, h4, h5⟩ := h
 exact ⟨h1.cell 4, h1.frozen 4, h1.lt⟩
theorem setCell_grown (w : World) (p : Addr) (u : Value) : w.grownBy (w.setCell p u) (some p.block) :=
 ⟨rfl, rfl, rfl, by simp, fun k hk hne => Below.heap_setCell w p u k (fun e => hne (by rw [e]))⟩
theorem cellsN_set (d : Nd) (s s' : Value) : (cellsN d s).setIfInBounds 4 s' = cellsN d s' := rfl
theorem Bld.step {S : Nat → Prop} {w0 W w1 : World} {b g cap : Nat} {d dk : Nd} {sv v : Value} {f k : Fo} {xs : List Value} (h : Bld S w0 W b d sv f xs) (hk : RepS (Apart S w0 b sv) W (.node dk k .no) [v])
 (hown : w1.ownsRow w0.heap.size 26 1 (.slice (some ⟨g, 0, none⟩) (xs.length + 1) cap) (xs.length + 1) (xs ++ [v])) (hg : W.grownBy w1 sv.ownBlock) (hor : sv.ownBlock = some g ∨ g = W.heap.size) :
 Bld S w0 (w1.setCell ⟨b, 4, none⟩ (.slice (some ⟨g, 0, none⟩) (xs.length + 1) cap)) b d (.slice (some ⟨g, 0, none⟩) (xs.length + 1) cap) (f.snoc dk k) (xs ++ [v]) := by
 obtain ⟨h1, h2, h3, h4, h5⟩ := h
 have hlt := h1.lt
 have hne : sv.ownBlock ≠ some b := own_blk_ne h2 h1 (by decide)
 have hb1 : Blk w1 b 42 (cellsN d sv) := h1.grown hg (fun e => hne e.symm)
 have hgb : g ≠ b := by
  have := own_blk_ne hown hb1 (by decide)
  intro e; subst e; exact this rfl
 have hg0 : w0.heap.size ≤ g := (hown.lt g rfl).1
 have hb5 : Below w0.heap.size w0 w1 := h5.grown hg h5.size (fun k hk => (h2.lt k hk).1)
 refine ⟨?_, ?_, ?_, h4, hb5.setCell h4 _⟩
 ·have := hb1.set_ 4 (.slice (some ⟨g, 0, none⟩) (xs.length + 1) cap)
  rwa [cellsN_set] at this
 ·rw [List.length_append, List.length_singleton]
  exact hown.kept (setCell_grown _ _ _) (.inr (by show some g ≠ some b; simpa using hgb))
 ·have hS : ∀ x, Apart S w0 b sv x → x < W.heap.size → Apart S w0 b (.slice (some ⟨g, 0, none⟩) (xs.length + 1) cap) x := by
   intro x hx hl
   obtain ⟨x1, x2, x3⟩ := hx
   refine ⟨x1, x2, ?_⟩
   show some g ≠ some x
   intro e
   injection e with e
   subst e
   rcases hor with hor | hor
   ·exact x3 hor
   ·omega
  have hkeep : ∀ x, Apart S w0 b sv x → x < W.heap.size → (w1.setCell ⟨b, 4, none⟩ (.slice (some ⟨g, 0, none⟩) (xs.length + 1) cap)).heap[x]? = W.heap[x]? := by
   intro x hx hl
   obtain ⟨x1, x2, x3⟩ := hx
   rw [Below.heap_setCell w1 ⟨b, 4, none⟩ _ x x2]
   exact hg.block x hl (fun e => x3 e.symm)
  exact RepS.snoc (hk.keep (by simp; exact hg.size) hkeep hS) (h3.keep (by simp; exact hg.size) hkeep hS)
theorem Bld.done {S : Nat → Prop} {w0 w : World} {b : Nat} {d : Nd} {sv : Value} {f : Fo} {xs : List Value} (h : Bld S w0 w b d sv f xs) : RepS (fun x => S x ∨ w0.heap.size ≤ x) w (.node d f .no) [.pointer (some ⟨b, 0, none⟩)] := by
 obtain ⟨h1, h2, h3, h4, h5⟩ := h
 exact RepS.mk h1 h2 (h3.more fun x hx _ => hx.1) (.inr h4) (fun g hg => .inr (h2.lt g hg).1)
theorem Bld.own {S : Nat → Prop} {w0 w : World} {b : Nat} {d : Nd} {sv : Value} {f : Fo} {xs : List Value} (h : Bld S w0 w b d sv f xs) : w.ownsRow w0.heap.size 26 1 sv xs.length xs := by
 obtain ⟨_, h, _⟩ := h; exact h
theorem Bld.bel {S : Nat → Prop} {w0 w : World} {b : Nat} {d : Nd} {sv : Value} {f : Fo} {xs : List Value} (h : Bld S w0 w b d sv f xs) : Below w0.heap.size w0 w := by
 obtain ⟨_, _, _, _, h⟩ := h; exact h
theorem Bld.low {S : Nat → Prop} {w0 w : World} {b : Nat} {d : Nd} {sv : Value} {f : Fo} {xs : List Value} (h : Bld S w0 w b d sv f xs) : w0.heap.size ≤ b := by
 obtain ⟨_, _, _, h, _⟩ := h; exact h
theorem Bld.newer {S : Nat → Prop} {w0 w w' : World} {b : Nat} {d dk : Nd} {sv v : Value} {f k : Fo} {xs : List Value} (h : Bld S w0 w b d sv f xs) (hk : RepS (fun x => w.heap.size ≤ x) w' (.node dk k .no) [v]) : RepS (Apart S w0 b sv) w' (.node dk k .no) [v] := by
 obtain ⟨h1, h2, h3, h4, h5⟩ := h
 have hlt := h1.lt
 have hs := h5.size
 refine hk.more fun x hx _ => ⟨.inr (by omega), by omega, fun e => ?_⟩
 have := (h2.lt x e).2
 omega
theorem Bld.older {S : Nat → Prop} {w0 w w' : World} {b : Nat} {d dk : Nd} {sv v : Value} {f k : Fo} {xs : List Value} (h : Bld S w0 w b d sv f xs) (hk : RepS (fun x => S x ∧ x < w0.heap.size) w' (.node dk k .no) [v]) : RepS (Apart S w0 b sv) w' (.node dk k .no) [v] := by
 obtain ⟨h1, h2, h3, h4, h5⟩ := h
 refine hk.more fun x hx _ => ⟨.inl hx.1, by omega, fun e => ?_⟩
 have := (h2.lt x e).1
 omega
theorem info26 : (Try.prog.info? 26).map (fun i => (i.zero, i.size, i.bytes)) = some (some (.pointer none), 1, 8) := by kernel_rfl
def zeroN : Nd := ⟨0, (0, 0), ⟨#[]⟩, 0⟩
end Go.Proofs.Ytecmjhohniipoaa.Tr
end
