/- The walk of Exact. -/
import Derived.Test.YtecmjhohniipoaaT3
set_option linter.unusedSimpArgs false
set_option linter.unusedVariables false
namespace Go.Proofs.Ytecmjhohniipoaa.Tr
open Go.RowKit
open Fl

theorem Fo.fits_head {d : Nd} {k r : Fo} (h : (Fo.node d k r).fits) : (Fo.node d k .no).fits ∧ k.fits ∧ r.fits := by
  simp only [Fo.fits] at h ⊢
  exact ⟨⟨h.1, h.2.1, h.2.2.1, h.2.2.2.1, h.2.2.2.2.1, trivial⟩, h.2.2.2.2.1, h.2.2.2.2.2⟩
theorem Fo.fits_pos {d : Nd} {k r : Fo} (h : (Fo.node d k r).fits) : d.pos.1 < 4294967296 ∧ d.pos.2 < 4294967296 := by
  simp only [Fo.fits] at h
  exact ⟨h.2.1, h.2.2.1⟩

set_option maxHeartbeats 1600000 in
theorem exact_1 (d : Nd) (k : Fo) (d' : Nd) (k' : Fo) (v v' : Value) (w : World) (hc : (Fo.node d k .no).count ≤ 1000000) (hr : Rep w (.node d k .no) [v]) (hr' : Rep w (.node d' k' .no) [v']) (h : (Fo.node d k .no).same (.node d' k' .no) = false) :
    Calls Try.prog 12 #[v, v'] w fun e w' => e = .returned (.bool false) ∧ ∃ m, w' = w.drewN m := by
  have c1 := rsame_any _ d k d' k' v v' w (Nat.le_refl _) hc hr hr'
  rw [h] at c1
  have C1 := Lib.hid c1
  clear c1 hr hr' h hc
  go_enter Try.func12, Try.ntmps12
  go_wp2_with fail
  ((with_reducible refine C1.out.mono ?_); rintro e w' ⟨rfl, hm⟩)
  go_wp2
  go_ret
  exact ⟨rfl, hm⟩

set_option maxHeartbeats 1600000 in
theorem exact_2 (d : Nd) (k : Fo) (d' : Nd) (k' : Fo) (v v' : Value) (w : World) (hc : (Fo.node d k .no).count ≤ 1000000) (hr : Rep w (.node d k .no) [v]) (hr' : Rep w (.node d' k' .no) [v']) (h : (Fo.node d k .no).same (.node d' k' .no) = true)
    (hf : (Fo.node d k .no).fits) (hf' : (Fo.node d' k' .no).fits) (hp : d.pos ≠ d'.pos) :
    Calls Try.prog 12 #[v, v'] w fun e w' => e = .returned (.bool false) ∧ ∃ m, w' = w.drewN m := by
  have c1 := rsame_any _ d k d' k' v v' w (Nat.le_refl _) hc hr hr'
  rw [h] at c1
  have C1 := Lib.hid c1
  have sp := same_pos d.pos d'.pos (Fo.fits_pos hf).1 (Fo.fits_pos hf).2 (Fo.fits_pos hf').1 (Fo.fits_pos hf').2
  rw [show decide (d.pos = d'.pos) = false by simpa using hp] at sp
  obtain ⟨b, A, c, ks, rfl, ⟨a0, a1, a2, a3, a4⟩, hA, hk⟩ := hr.one
  obtain ⟨b', A', c', ks', rfl, ⟨a0', a1', a2', a3', a4'⟩, hA', hk'⟩ := hr'.one
  unfold C at a1 a1'
  clear c1 hr hr' h hc hf hf' hp hA hk hA' hk'
  go_enter Try.func12, Try.ntmps12
  go_wp2_with fail
  ((with_reducible refine C1.out.mono ?_); rintro e w1 ⟨rfl, hm⟩)
  obtain ⟨m, rfl⟩ := hm
  have a1 : (w.drewN m).cell? ⟨b, 1, none⟩ = some (.complex .f64 (fl d.pos.1) (fl d.pos.2)) := a1
  have a1' : (w.drewN m).cell? ⟨b', 1, none⟩ = some (.complex .f64 (fl d'.pos.1) (fl d'.pos.2)) := a1'
  have HW := Lib.hid (show ∃ n, w.drewN m = w.drewN n from ⟨m, rfl⟩)
  generalize w.drewN m = wr at *
  go_wp2
  go_quiet (fail)
  go_wp2
  go_ret
  obtain ⟨n, hn⟩ := HW.out
  subst hn
  exact ⟨rfl, _, World.drewN_drewN _ _ _⟩

set_option maxHeartbeats 3200000 in
theorem exact_any (N : Nat) : ∀ (d : Nd) (k : Fo) (d' : Nd) (k' : Fo) (v v' : Value) (w : World), (Fo.node d k .no).count ≤ N → (Fo.node d k .no).count ≤ 1000000 → (Fo.node d k .no).fits → (Fo.node d' k' .no).fits → Rep w (.node d k .no) [v] → Rep w (.node d' k' .no) [v'] →
    Calls Try.prog 12 #[v, v'] w fun e w' => e = .returned (.bool ((Fo.node d k .no).exact (.node d' k' .no))) ∧ ∃ m, w' = w.drewN m := by
  induction N with
  | zero => intro d k d' k' v v' w h; simp [Fo.count] at h
  | succ N ih =>
    intro d k d' k' v v' w hN hc hf hf' hr hr'
    cases hsm : (Fo.node d k .no).same (.node d' k' .no)
    case false => rw [Fo.exact_no (.inl hsm)]; exact exact_1 d k d' k' v v' w hc hr hr' hsm
    by_cases hp : d.pos = d'.pos
    case neg => rw [Fo.exact_no (.inr hp)]; exact exact_2 d k d' k' v v' w hc hr hr' hsm hf hf' hp
    have c1 := rsame_any _ d k d' k' v v' w (Nat.le_refl _) hc hr hr'
    rw [hsm] at c1
    have CS := Lib.hid c1
    have sp := same_pos d.pos d'.pos (Fo.fits_pos hf).1 (Fo.fits_pos hf).2 (Fo.fits_pos hf').1 (Fo.fits_pos hf').2
    rw [show decide (d.pos = d'.pos) = true by simpa using hp] at sp
    obtain ⟨b, A, c, ks, rfl, hat, hA, hk⟩ := hr.one
    obtain ⟨b', A', c', ks', rfl, hat', hA', hk'⟩ := hr'.one
    have hle := Reads.len_le (B := 0) (A := none) hk
    have hlen : k.len = k'.len := Fo.same_len _ _ (by simp only [Fo.same, Bool.and_eq_true] at hsm; exact hsm.1.2)
    have hkl := hk.len
    have hkl' := hk'.len
    have hll : ks'.length = ks.length := by omega
    rw [hll] at hA' hat'
    obtain ⟨a0, a1, a2, a3, a4⟩ := id hat
    obtain ⟨a0', a1', a2', a3', a4'⟩ := id hat'
    unfold C at a1 a1'
    simp only [Fo.count] at hN hc
    have HE := Lib.hid (show (Fo.node d k .no).exact (.node d' k' .no) = k.exact k' from Fo.exact_one hsm hp)
    have HAT := Lib.hid hat
    have HAT' := Lib.hid hat'
    have HLL := Lib.hid hll
    have HA := Lib.hid hA
    have HA' := Lib.hid hA'
    have HK := Lib.hid hk
    have HK' := Lib.hid hk'
    have IH := Lib.hid ih
    have HF := Lib.hid (Fo.fits_head hf).2.1
    have HF' := Lib.hid (Fo.fits_head hf').2.1
    clear c1 hA hA' hk hk' hr hr' ih hat hat' hll hkl hkl' hsm hp hlen hf hf'
    go_enter Try.func12, Try.ntmps12
    go_wp2_with fail
    ((with_reducible refine CS.out.mono ?_); rintro e w1 ⟨rfl, hm⟩)
    obtain ⟨m0, rfl⟩ := hm
    have hK : Rep (w.drewN m0) k ks := HK.out.drewN _
    have hK' : Rep (w.drewN m0) k' ks' := HK'.out.drewN _
    have hB : Reads (w.drewN m0) (w.drewN m0).heap.size 1 A ks.length ks := HA.out
    have hB' : Reads (w.drewN m0) (w.drewN m0).heap.size 1 A' ks.length ks' := HA'.out
    have hT : At (w.drewN m0) b d (.slice A ks.length c) := HAT.out
    have hT' : At (w.drewN m0) b' d' (.slice A' ks.length c') := HAT'.out
    clear HK HK' HA HA' HAT HAT' a0 a1 a2 a3 a4 a0' a1' a2' a3' a4'
    have HW := Lib.hid (show ∃ n, w.drewN m0 = w.drewN n from ⟨m0, rfl⟩)
    generalize w.drewN m0 = w1 at *
    have HK := Lib.hid hK
    have HK' := Lib.hid hK'
    have HA := Lib.hid hB
    have HA' := Lib.hid hB'
    have HAT := Lib.hid hT
    have HAT' := Lib.hid hT'
    obtain ⟨a0, a1, a2, a3, a4⟩ := id hT
    obtain ⟨a0', a1', a2', a3', a4'⟩ := id hT'
    unfold C at a1 a1'
    clear hK hK' hB hB' hT hT'
    go_wp2
    go_quiet (fail)
    go_wp2
    go_loopw [5] (fun i wr => ∃ (j : Nat) (f f' : Fo), j ≤ ks.length ∧ i = .int .i64 j ∧ f.count ≤ k.count ∧ Hid (k.exact k' = f.exact f') ∧ Hid f.fits ∧ Hid f'.fits ∧ Hid (Rep wr f (ks.drop j)) ∧ Hid (Rep wr f' (ks'.drop j)) ∧ Hid (Reads wr wr.heap.size 1 A ks.length ks) ∧ Hid (Reads wr wr.heap.size 1 A' ks.length ks') ∧ Hid (At wr b d (.slice A ks.length c)) ∧ Hid (At wr b' d' (.slice A' ks.length c')) ∧ Hid (∃ m, wr = w.drewN m)) (fun i _ => ks.length - (intOf i).toNat)
    case atStart =>
      refine ⟨0, k, k', Nat.zero_le _, rfl, Nat.le_refl _, Lib.hid rfl, HF, HF', Lib.hid (Rep.drewN _ HK.out), Lib.hid (Rep.drewN _ HK'.out), Lib.hid HA.out, Lib.hid HA'.out, Lib.hid HAT.out, Lib.hid HAT'.out, Lib.hid ?_⟩
      obtain ⟨m, hm⟩ := HW.out
      subst hm
      exact ⟨_, World.drewN_drewN _ _ _⟩
    case round =>
      obtain ⟨j, f, f', hj, rfl, hfc, HS, HQ, HQ', HR, HR', HB, HB', HT, HT', HV⟩ := hrel
      clear a0 a1 a2 a3 a4 a0' a1' a2' a3' a4' HW
      obtain ⟨a0, a1, a2, a3, a4⟩ := HT.out
      obtain ⟨a0', a1', a2', a3', a4'⟩ := HT'.out
      by_cases hlt : j < ks.length
      · obtain ⟨d1, k1, r1, rfl, g1, g2⟩ := HR.out.at_ hlt
        obtain ⟨d2, k2, r2, rfl, g1', g2'⟩ := HR'.out.at_ (by rw [HLL.out]; exact hlt)
        obtain ⟨b1, off, rfl, hcell⟩ := Reads.nth HB.out hlt
        obtain ⟨b2, off', rfl, hcell'⟩ := Reads.nth (vs := ks') (by rw [HLL.out]; exact HB'.out) (i := j) (by rw [HLL.out]; exact hlt)
        simp only [Fo.count] at hfc
        have q1 := Fo.fits_head HQ.out
        have q2 := Fo.fits_head HQ'.out
        have c1 := fun (W : World) (g : Rep W (.node d1 k1 .no) [ks[j]]) (g' : Rep W (.node d2 k2 .no) [ks'[j]'(by rw [HLL.out]; exact hlt)]) => IH.out d1 k1 d2 k2 _ _ W (by simp [Fo.count]; omega) (by simp [Fo.count]; omega) q1.1 q2.1 g g'
        have G1 := Lib.hid g1
        have G1' := Lib.hid g1'
        have G2 := Lib.hid g2
        have G2' := Lib.hid g2'
        have R1 := Lib.hid q1.2.2
        have R2 := Lib.hid q2.2.2
        have hi0 : (0 : Int) ≤ (j : Int) := by omega
        have hi1 : (j : Int) < (ks.length : Int) := by omega
        clear g1 g1' g2 g2' HR HR' q1 q2 HQ HQ'
        generalize ks[j] = u at *
        generalize ks'[j]'(by rw [HLL.out]; exact hlt) = u' at *
        cases hz : (Fo.node d1 k1 .no).exact (.node d2 k2 .no)
        · rw [hz] at c1
          have C1 := Lib.hid c1
          have HG := Lib.hid (show k.exact k' = false by rw [HS.out, Fo.exact_cons, hz]; rfl)
          clear c1 hz HS
          go_wp2
          go_quiet ((go_at_call 12; exact Calls.quiet_of (C1.out _ (Rep.drewN _ G1.out) (Rep.drewN _ G1'.out))))
          go_wp2
          go_ret
          obtain ⟨m, hm⟩ := HV.out
          subst hm
          exact ⟨by rw [HE.out, HG.out] <;> rfl, _, World.drewN_drewN _ _ _⟩
        · rw [hz] at c1
          have C1 := Lib.hid c1
          have HG := Lib.hid (show k.exact k' = r1.exact r2 by rw [HS.out, Fo.exact_cons, hz]; rfl)
          clear c1 hz HS
          go_wp2
          go_quiet ((go_at_call 12; exact Calls.quiet_of (C1.out _ (Rep.drewN _ G1.out) (Rep.drewN _ G1'.out))))
          go_wp2
          go_roundw
          case rel =>
            refine ⟨j + 1, r1, r2, by omega, by go_num, by omega, HG, R1, R2, Lib.hid (Rep.drewN _ G2.out), Lib.hid (Rep.drewN _ G2'.out), Lib.hid HB.out, Lib.hid HB'.out, Lib.hid HT.out, Lib.hid HT'.out, Lib.hid ?_⟩
            obtain ⟨m, hm⟩ := HV.out
            subst hm
            exact ⟨_, World.drewN_drewN _ _ _⟩
          case measure => simp [intOf]; omega
      · have he := HR.out.end_ hlt
        have he' := HR'.out.end_ (by rw [HLL.out]; exact hlt)
        subst he he'
        have HG := Lib.hid (show k.exact k' = true by rw [HS.out]; rfl)
        clear HR HR' HS HQ HQ'
        go_wp2
        go_ret
        obtain ⟨m, hm⟩ := HV.out
        exact ⟨by rw [HE.out, HG.out] <;> rfl, m, hm⟩

end Go.Proofs.Ytecmjhohniipoaa.Tr
