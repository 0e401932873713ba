/- The walks of Same and Exact. -/
import Derived.Test.YtecmjhohniipoaaT2
import Derived.Deep.QuietTactic
import Derived.BigQuiet
set_option linter.unusedSimpArgs false
set_option linter.unusedVariables false
namespace Go.Proofs.Ytecmjhohniipoaa.Tr
open Go.RowKit
open Fl

theorem Fo.same_cons (d d' : Nd) (k r k' r' : Fo) : (Fo.node d k r).same (.node d' k' r') = ((Fo.node d k .no).same (.node d' k' .no) && r.same r') := by simp [Fo.same]
theorem Fo.exact_cons (d d' : Nd) (k r k' r' : Fo) : (Fo.node d k r).exact (.node d' k' r') = ((Fo.node d k .no).exact (.node d' k' .no) && r.exact r') := by simp [Fo.exact]
theorem Fo.same_one {d d' : Nd} {k k' : Fo} (h1 : d.kind = d'.kind) (h2 : d.name = d'.name) (h3 : d.n = d'.n) : (Fo.node d k .no).same (.node d' k' .no) = k.same k' := by simp [Fo.same, h1, h2, h3]
theorem Fo.same_no {d d' : Nd} {k k' : Fo} (h : d.kind ≠ d'.kind ∨ d.name ≠ d'.name ∨ d.n ≠ d'.n ∨ k.len ≠ k'.len) : (Fo.node d k .no).same (.node d' k' .no) = false := by
  cases hs : (Fo.node d k .no).same (.node d' k' .no) with
  | false => rfl
  | true =>
    simp only [Fo.same, Bool.and_eq_true, decide_eq_true_eq] at hs
    have := Fo.same_len _ _ hs.1.2
    exact absurd h (by simp [hs.1.1.1.1, hs.1.1.1.2, hs.1.1.2, this])
theorem Fo.exact_one {d d' : Nd} {k k' : Fo} (h : (Fo.node d k .no).same (.node d' k' .no) = true) (h4 : d.pos = d'.pos) : (Fo.node d k .no).exact (.node d' k' .no) = k.exact k' := by
  simp only [Fo.same, Bool.and_eq_true, decide_eq_true_eq] at h
  simp [Fo.exact, h.1.1.1.1, h.1.1.1.2, h.1.1.2, h4]
theorem Fo.exact_no {d d' : Nd} {k k' : Fo} (h : (Fo.node d k .no).same (.node d' k' .no) = false ∨ d.pos ≠ d'.pos) : (Fo.node d k .no).exact (.node d' k' .no) = false := by
  cases hs : (Fo.node d k .no).exact (.node d' k' .no) with
  | false => rfl
  | true =>
    have h2 := Fo.exact_same _ _ hs
    simp only [Fo.exact, Bool.and_eq_true, decide_eq_true_eq] at hs
    rcases h with h | h
    · rw [h2] at h; cases h
    · exact absurd hs.1.1.2 h
theorem toList_ne {a b : ByteArray} (h : a ≠ b) : (a.toList == b.toList) = false := by
  rw [beq_eq_false_iff_ne]
  intro e
  apply h
  rw [ByteArray.toList_eq, ByteArray.toList_eq] at e
  exact ByteArray.ext (Array.toList_inj.1 e)
theorem At.drewN {w : World} {b : Nat} {d : Nd} {s : Value} (n : Nat) (h : At w b d s) : At (w.drewN n) b d s := h
theorem same_pos (a q : Nat × Nat) (h1 : a.1 < 4294967296) (h2 : a.2 < 4294967296) (h3 : q.1 < 4294967296) (h4 : q.2 < 4294967296) :
    ((FloatKind.f64.format.order (fl a.1) (fl q.1) == some .eq) && (FloatKind.f64.format.order (fl a.2) (fl q.2) == some .eq)) = decide (a = q) := by
  rw [fl_order _ _ (by omega) (by omega), fl_order _ _ (by omega) (by omega), Bool.eq_iff_iff]
  simp only [Bool.and_eq_true, beq_iff_eq, Option.some.injEq, Nat.compare_eq_eq, decide_eq_true_eq]
  exact ⟨fun h => Prod.ext h.1 h.2, fun h => by rw [h]; exact ⟨rfl, rfl⟩⟩

set_option maxHeartbeats 1600000 in
theorem rsame_1 (d : Nd) (k : Fo) (d' : Nd) (k' : Fo) (v v' : Value) (w : World) (hr : Rep w (.node d k .no) [v]) (hr' : Rep w (.node d' k' .no) [v']) (e1 : d.kind ≠ d'.kind) :
    Calls Try.prog 14 #[v, v'] w fun e w' => e = .returned (.bool false) ∧ ∃ m, w' = w.drewN m := by
    obtain ⟨b, A, c, ks, rfl, ⟨a0, a1, a2, a3, a4⟩, hA, hk⟩ := hr.one
    obtain ⟨b', A', c', ks', rfl, ⟨a0', a1', a2', a3', a4'⟩, hA', hk'⟩ := hr'.one
    have t1 : ((d.kind : Int) != (d'.kind : Int)) = true := by simp; omega
    clear hA hk hA' hk' hr hr' e1
    go_enter Try.func14, Try.ntmps14
    go_wp2
    go_quiet (fail)
    go_wp2
    go_ret
    exact ⟨rfl, _, rfl⟩

set_option maxHeartbeats 1600000 in
theorem rsame_2 (d : Nd) (k : Fo) (d' : Nd) (k' : Fo) (v v' : Value) (w : World) (hr : Rep w (.node d k .no) [v]) (hr' : Rep w (.node d' k' .no) [v']) (e1 : d.kind = d'.kind) (e2 : d.name ≠ d'.name) :
    Calls Try.prog 14 #[v, v'] w fun e w' => e = .returned (.bool false) ∧ ∃ m, w' = w.drewN m := by
    obtain ⟨b, A, c, ks, rfl, ⟨a0, a1, a2, a3, a4⟩, hA, hk⟩ := hr.one
    obtain ⟨b', A', c', ks', rfl, ⟨a0', a1', a2', a3', a4'⟩, hA', hk'⟩ := hr'.one
    have t1 : ((d.kind : Int) != (d'.kind : Int)) = false := by simp [e1]
    have t2 : (d.name.toList == d'.name.toList) = false := by exact toList_ne e2
    clear hA hk hA' hk' hr hr' e1 e2
    go_enter Try.func14, Try.ntmps14
    go_wp2
    go_quiet (fail)
    go_wp2
    go_ret
    exact ⟨rfl, _, rfl⟩

set_option maxHeartbeats 1600000 in
theorem rsame_3 (d : Nd) (k : Fo) (d' : Nd) (k' : Fo) (v v' : Value) (w : World) (hr : Rep w (.node d k .no) [v]) (hr' : Rep w (.node d' k' .no) [v']) (e1 : d.kind = d'.kind) (e2 : d.name = d'.name) (e3 : d.n ≠ d'.n) :
    Calls Try.prog 14 #[v, v'] w fun e w' => e = .returned (.bool false) ∧ ∃ m, w' = w.drewN m := by
    obtain ⟨b, A, c, ks, rfl, ⟨a0, a1, a2, a3, a4⟩, hA, hk⟩ := hr.one
    obtain ⟨b', A', c', ks', rfl, ⟨a0', a1', a2', a3', a4'⟩, hA', hk'⟩ := hr'.one
    have t1 : ((d.kind : Int) != (d'.kind : Int)) = false := by simp [e1]
    have t2 : (d.name.toList == d'.name.toList) = true := by simp [e2]
    have t3 : (d.n != d'.n) = true := by simpa using e3
    clear hA hk hA' hk' hr hr' e1 e2 e3
    go_enter Try.func14, Try.ntmps14
    go_wp2
    go_quiet (fail)
    go_wp2
    go_ret
    exact ⟨rfl, _, rfl⟩

set_option maxHeartbeats 1600000 in
theorem rsame_4 (d : Nd) (k : Fo) (d' : Nd) (k' : Fo) (v v' : Value) (w : World) (hr : Rep w (.node d k .no) [v]) (hr' : Rep w (.node d' k' .no) [v']) (e1 : d.kind = d'.kind) (e2 : d.name = d'.name) (e3 : d.n = d'.n) (e4 : k.len ≠ k'.len) :
    Calls Try.prog 14 #[v, v'] w fun e w' => e = .returned (.bool false) ∧ ∃ m, w' = w.drewN m := by
    obtain ⟨b, A, c, ks, rfl, ⟨a0, a1, a2, a3, a4⟩, hA, hk⟩ := hr.one
    obtain ⟨b', A', c', ks', rfl, ⟨a0', a1', a2', a3', a4'⟩, hA', hk'⟩ := hr'.one
    rw [← hk.len, ← hk'.len] at e4
    have t1 : ((d.kind : Int) != (d'.kind : Int)) = false := by simp [e1]
    have t2 : (d.name.toList == d'.name.toList) = true := by simp [e2]
    have t3 : (d.n != d'.n) = false := by simp [e3]
    have t4 : ((ks.length : Int) != (ks'.length : Int)) = true := by simp; omega
    clear hA hk hA' hk' hr hr' e1 e2 e3 e4
    go_enter Try.func14, Try.ntmps14
    go_wp2
    go_quiet (fail)
    go_wp2
    go_ret
    exact ⟨rfl, _, rfl⟩

set_option maxHeartbeats 3200000 in
theorem rsame_any (N : Nat) : ∀ (d : Nd) (k : Fo) (d' : Nd) (k' : Fo) (v v' : Value) (w : World), (Fo.node d k .no).count ≤ N → (Fo.node d k .no).count ≤ 1000000 → Rep w (.node d k .no) [v] → Rep w (.node d' k' .no) [v'] →
    Calls Try.prog 14 #[v, v'] w fun e w' => e = .returned (.bool ((Fo.node d k .no).same (.node d' k' .no))) ∧ ∃ m, w' = w.drewN m := by
  induction N with
  | zero => intro d k d' k' v v' w h; simp [Fo.count] at h
  | succ N ih =>
    intro d k d' k' v v' w hN hc hr hr'
    by_cases e1 : d.kind = d'.kind
    case neg => rw [Fo.same_no (.inl e1)]; exact rsame_1 d k d' k' v v' w hr hr' e1
    by_cases e2 : d.name = d'.name
    case neg => rw [Fo.same_no (.inr (.inl e2))]; exact rsame_2 d k d' k' v v' w hr hr' e1 e2
    by_cases e3 : d.n = d'.n
    case neg => rw [Fo.same_no (.inr (.inr (.inl e3)))]; exact rsame_3 d k d' k' v v' w hr hr' e1 e2 e3
    by_cases e4 : k.len = k'.len
    case neg => rw [Fo.same_no (.inr (.inr (.inr e4)))]; exact rsame_4 d k d' k' v v' w hr hr' e1 e2 e3 e4
    obtain ⟨b, A, c, ks, rfl, hat, hA, hk⟩ := hr.one
    obtain ⟨b', A', c', ks', rfl, hat', hA', hk'⟩ := hr'.one
    obtain ⟨a0, a1, a2, a3, a4⟩ := id hat
    obtain ⟨a0', a1', a2', a3', a4'⟩ := id hat'
    have hle := Reads.len_le (B := 0) (A := none) hk
    simp only [Fo.count] at hN hc
    have HE := Lib.hid (show (Fo.node d k .no).same (.node d' k' .no) = k.same k' from Fo.same_one e1 e2 e3)
    have HAT := Lib.hid hat
    have HAT' := Lib.hid hat'
    have hkl := hk.len
    have hkl' := hk'.len
    have hll : ks'.length = ks.length := by omega
    have t1 : ((d.kind : Int) != (d'.kind : Int)) = false := by simp [e1]
    have t2 : (d.name.toList == d'.name.toList) = true := by simp [e2]
    have t3 : (d.n != d'.n) = false := by simp [e3]
    rw [hll] at hA' a4' HAT'
    have t4 : ((ks.length : Int) != (ks.length : Int)) = false := by simp
    have HLL := Lib.hid hll
    have HA := Lib.hid hA
    have HA' := Lib.hid hA'
    have HK := Lib.hid hk
    have HK' := Lib.hid hk'
    have IH := Lib.hid ih
    clear hA hA' hk hk' hr hr' ih hat hat' hll hkl hkl' e1 e2 e3 e4
    go_enter Try.func14, Try.ntmps14
    go_wp2
    go_quiet (fail)
    go_wp2
    go_loopw [5] (fun i wr => ∃ (j : Nat) (f f' : Fo), j ≤ ks.length ∧ i = .int .i64 j ∧ f.count ≤ k.count ∧ Hid (k.same k' = f.same f') ∧ Hid (Rep wr f (ks.drop j)) ∧ Hid (Rep wr f' (ks'.drop j)) ∧ Hid (Reads wr wr.heap.size 1 A ks.length ks) ∧ Hid (Reads wr wr.heap.size 1 A' ks.length ks') ∧ Hid (At wr b d (.slice A ks.length c)) ∧ Hid (At wr b' d' (.slice A' ks.length c')) ∧ Hid (∃ m, wr = w.drewN m)) (fun i _ => ks.length - (intOf i).toNat)
    case atStart => exact ⟨0, k, k', Nat.zero_le _, rfl, Nat.le_refl _, Lib.hid rfl, Lib.hid (Rep.drewN _ HK.out), Lib.hid (Rep.drewN _ HK'.out), Lib.hid HA.out, Lib.hid HA'.out, Lib.hid HAT.out, Lib.hid HAT'.out, Lib.hid ⟨_, rfl⟩⟩
    case round =>
      obtain ⟨j, f, f', hj, rfl, hfc, HS, HR, HR', HB, HB', HT, HT', HW⟩ := hrel
      clear a0 a1 a2 a3 a4 a0' a1' a2' a3' a4'
      obtain ⟨a0, a1, a2, a3, a4⟩ := HT.out
      obtain ⟨a0', a1', a2', a3', a4'⟩ := HT'.out
      by_cases hlt : j < ks.length
      · obtain ⟨d1, k1, r1, rfl, g1, g2⟩ := HR.out.at_ hlt
        obtain ⟨d2, k2, r2, rfl, g1', g2'⟩ := HR'.out.at_ (by rw [HLL.out]; exact hlt)
        obtain ⟨b1, off, rfl, hcell⟩ := Reads.nth HB.out hlt
        obtain ⟨b2, off', rfl, hcell'⟩ := Reads.nth (vs := ks') (by rw [HLL.out]; exact HB'.out) (i := j) (by rw [HLL.out]; exact hlt)
        simp only [Fo.count] at hfc
        have c1 := fun (W : World) (g : Rep W (.node d1 k1 .no) [ks[j]]) (g' : Rep W (.node d2 k2 .no) [ks'[j]'(by rw [HLL.out]; exact hlt)]) => IH.out d1 k1 d2 k2 _ _ W (by simp [Fo.count]; omega) (by simp [Fo.count]; omega) g g'
        have G1 := Lib.hid g1
        have G1' := Lib.hid g1'
        have G2 := Lib.hid g2
        have G2' := Lib.hid g2'
        have hi0 : (0 : Int) ≤ (j : Int) := by omega
        have hi1 : (j : Int) < (ks.length : Int) := by omega
        clear g1 g1' g2 g2' HR HR'
        generalize ks[j] = u at *
        generalize ks'[j]'(by rw [HLL.out]; exact hlt) = u' at *
        cases hz : (Fo.node d1 k1 .no).same (.node d2 k2 .no)
        · rw [hz] at c1
          have C1 := Lib.hid c1
          have HF := Lib.hid (show k.same k' = false by rw [HS.out, Fo.same_cons, hz]; rfl)
          clear c1 hz HS
          go_wp2
          go_quiet ((go_at_call 14; exact Calls.quiet_of (C1.out _ (Rep.drewN _ G1.out) (Rep.drewN _ G1'.out))))
          go_wp2
          go_ret
          obtain ⟨m, hm⟩ := HW.out
          subst hm
          exact ⟨by rw [HE.out, HF.out] <;> rfl, _, World.drewN_drewN _ _ _⟩
        · rw [hz] at c1
          have C1 := Lib.hid c1
          have HF := Lib.hid (show k.same k' = r1.same r2 by rw [HS.out, Fo.same_cons, hz]; rfl)
          clear c1 hz HS
          go_wp2
          go_quiet ((go_at_call 14; exact Calls.quiet_of (C1.out _ (Rep.drewN _ G1.out) (Rep.drewN _ G1'.out))))
          go_wp2
          go_roundw
          case rel =>
            refine ⟨j + 1, r1, r2, by omega, by go_num, by omega, HF, Lib.hid (Rep.drewN _ G2.out), Lib.hid (Rep.drewN _ G2'.out), Lib.hid HB.out, Lib.hid HB'.out, Lib.hid HT.out, Lib.hid HT'.out, Lib.hid ?_⟩
            obtain ⟨m, hm⟩ := HW.out
            subst hm
            exact ⟨_, World.drewN_drewN _ _ _⟩
          case measure => simp [intOf]; omega
      · have he := HR.out.end_ hlt
        have he' := HR'.out.end_ (by rw [HLL.out]; exact hlt)
        subst he he'
        have HF := Lib.hid (show k.same k' = true by rw [HS.out]; rfl)
        clear HR HR' HS
        go_wp2
        go_ret
        obtain ⟨m, hm⟩ := HW.out
        exact ⟨by rw [HE.out, HF.out] <;> rfl, m, hm⟩

end Go.Proofs.Ytecmjhohniipoaa.Tr
