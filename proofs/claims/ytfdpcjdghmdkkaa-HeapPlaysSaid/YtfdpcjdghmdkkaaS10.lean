/- pdqsortOrdered over words, whole; slices.Sort. -/
import Derived.Test.YtfdpcjdghmdkkaaS9
import Derived.Sort.Walk13
import Derived.Sort.AssemblyPlain
set_option linter.unusedSimpArgs false
set_option linter.unusedVariables false
namespace Go.Proofs.Ytfdpcjdghmdkkaa.Hp
open Go.RowKit Go.Sort
theorem pdq_size {d : Array Nat} {a b limit : Nat} (hab : a ≤ b) (hb : b ≤ d.size) (hB : Go.Sort.Below ltU a b d) : (pdq ltU d a b limit true true).size = d.size := (pdq_sorts ltU swoU d a b limit true true hab hb hB).1.1
set_option maxRecDepth 1000000 in
set_option maxHeartbeats 25600000 in
theorem pdq_any {w0 : World} {g cap n : Nat} (hsz : n < 1152921504606846976) : ∀ (N a b limit : Nat) (d : Array Nat) (w : World), b - a < N → SU w0 g cap d w → d.size = n → a ≤ b → b ≤ n → limit < 1000 → Go.Sort.Below ltU a b d →
    Calls Try.prog 34 #[.slice (some ⟨g, 0, none⟩) n cap, .int .i64 a, .int .i64 b, .int .i64 limit] w fun e w' => e = .returned (.tuple #[]) ∧ SU w0 g cap (pdq ltU d a b limit true true) w' := by
  intro N
  induction N with
  | zero => intro _ _ _ _ _ h; exact absurd h (Nat.not_lt_zero _)
  | succ N ih =>
    intro a b limit d w hN h hdn hab hb hlimit hBel
    have H := Lib.hid h
    have IH := Lib.hid ih
    have HBEL := Lib.hid hBel
    clear h ih hBel
    go_enter Try.func34, Try.ntmps34
    go_wp2
    go_loopg [1, 2, 3, 8, 9] (b - a) (fun gh s1 s2 s3 s8 s9 wr => ∃ (a' b' lim : Nat) (wb wp : Bool) (dk : Array Nat), s1 = .int .i64 (a' : Nat) ∧ s2 = .int .i64 (b' : Nat) ∧ s3 = .int .i64 (lim : Nat) ∧ s8 = .bool wb ∧ s9 = .bool wp ∧
      a' ≤ b' ∧ b' ≤ n ∧ b' - a' ≤ gh ∧ gh ≤ b - a ∧ lim ≤ limit ∧ dk.size = n ∧ Hid (Go.Sort.Below ltU a' b' dk) ∧ Hid (SU w0 g cap dk wr) ∧ Hid (pdq ltU dk a' b' lim wb wp = pdq ltU d a b limit true true))
    case atStart => exact ⟨a, b, limit, true, true, d, rfl, rfl, rfl, rfl, rfl, hab, hb, Nat.le_refl _, Nat.le_refl _, Nat.le_refl _, hdn, HBEL, H, Lib.hid rfl⟩
    case round =>
      obtain ⟨a', b', lim, wb, wp, dk, rfl, rfl, rfl, rfl, rfl, hab', hb', hgh, hghN, hlim, hds, hB, hS, A⟩ := hrel
      clear H HBEL
      by_cases h12 : b' - a' ≤ 12
      · have g12 : decide ((b' : Int) - (a' : Int) ≤ 12) = true := decide_eq_true (by omega)
        have hc := insSort_any (a := a') (b := b') hS.out hab' (by omega) (by omega)
        rw [hds] at hc
        have HC := Lib.hid hc
        clear hc
        go_wp2_with (go_at_call 39; refine HC.out.mono ?_; rintro e w1 ⟨rfl, hw1⟩; have HW := Lib.hid hw1; clear hw1)
        (try simp only [Exit.inBlock, Exit.then]); refine bodyPost_ret (results_none rfl _ _ _) rfl ?_
        refine ⟨rfl, ?_⟩
        rw [← A.out, pdq_small h12]
        exact HW.out
      · have g12 : decide ((b' : Int) - (a' : Int) ≤ 12) = false := decide_eq_false (by omega)
        by_cases hl0 : lim = 0
        · subst hl0
          have hc := heapSort_any (a := a') (b := b') hS.out (by omega) (by omega) (by omega)
          rw [hds] at hc
          have HC := Lib.hid hc
          clear hc
          go_wp2_with (go_at_call 40; refine HC.out.mono ?_; rintro e w1 ⟨rfl, hw1⟩; have HW := Lib.hid hw1; clear hw1)
          (try simp only [Exit.inBlock, Exit.then]); refine bodyPost_ret (results_none rfl _ _ _) rfl ?_
          refine ⟨rfl, ?_⟩
          rw [← A.out, pdq_heap h12 rfl]
          exact HW.out
        · have gl0 : ((lim : Int) == 0) = false := by rw [beq_eq_false_iff_ne]; omega
          have gl0' : ¬ (lim : Int) = 0 := by omega
          obtain ⟨R, hR⟩ : ∃ R, R = rd ltU dk a' b' lim wb wp := ⟨_, rfl⟩
          have F := rd_facts (lt := ltU) (limit := lim) (wb := wb) (wp := wp) swoU partialInsertionSort_holds reverseRange_holds (show a' < b' by omega) (show b' ≤ dk.size by omega) hB.out
          have hrc : R.c = choosePivot ltU R.d1 a' b' := by rw [hR]; exact rd_c
          have hrl : R.lim ≤ lim := by rw [hR]; exact rd_lim_le
          rw [← hR] at F
          obtain ⟨s1, B1, hc1, s2, B2, hpv, s3, B3⟩ := F
          obtain ⟨hpv1, hpv2⟩ := hpv
          obtain ⟨hc1, hc2⟩ := hc1
          have HR := Lib.hid hR
          have HB3 := Lib.hid B3
          have HRC := Lib.hid hrc
          have S1 : R.d1.size = n := s1.trans hds
          have S2 : R.d2.size = n := s2.trans hds
          have S3 : R.pi.1.size = n := s3.trans hds
          clear hR B1 B2 B3 s1 s2 s3 hrc
          have h12b : a' + 12 < b' := by omega
          -- breakPatterns
          go_upto_if 35 with fail
          go_cut [3] from 19 to 133 (fun s3 wc => s3 = .int .i64 (R.lim : Nat) ∧ Hid (SU w0 g cap R.d1 wc))
          case first =>
            cases wb
            · have e1 : R.d1 = breakPatterns dk a' b' := by rw [HR.out]; exact rd_false.1
              have e2 : R.lim = lim - 1 := by rw [HR.out]; exact rd_false.2
              have hc := break_any (a := a') (b := b') hS.out h12b (by omega) (by omega)
              rw [hds, ← e1] at hc
              have HC := Lib.hid hc
              have E2 := Lib.hid e2
              clear hc e1 e2
              go_wp2_with (go_at_call 41; refine HC.out.mono ?_; rintro e w1 ⟨rfl, hw1⟩; have HW := Lib.hid hw1; clear hw1)
              go_meet
              refine ⟨?_, HW⟩
              rw [E2.out]
              show Value.int .i64 ((lim : Int) - 1) = Value.int .i64 ((lim - 1 : Nat) : Int)
              congr 1
              omega
            · have e1 : R.d1 = dk := by rw [HR.out]; exact rd_true.1
              have e2 : R.lim = lim := by rw [HR.out]; exact rd_true.2
              have E1 := Lib.hid e1
              have E2 := Lib.hid e2
              clear e1 e2
              go_wp2_with fail
              go_meet
              exact ⟨by rw [E2.out], by rw [E1.out]; exact hS⟩
          case rest =>
            obtain ⟨rfl, hS1⟩ := hcut
            clear hS
            have hc := pivot_any (a := a') (b := b') hS1.out h12b (by omega) (by omega)
            rw [S1, ← HRC.out] at hc
            have HC := Lib.hid hc
            clear hc
            go_upto_if 50 with (go_at_call 42; refine HC.out.mono ?_; rintro e w2 ⟨rfl, hw2⟩; have hS2 := Lib.hid hw2; clear hw2)
            go_cut [11, 12] from 19 to 133 (fun s11 s12 wc => s11 = .int .i64 (R.pivot : Nat) ∧ s12 = .int .i64 (hintCode R.hint) ∧ Hid (SU w0 g cap R.d2 wc))
            case first =>
              by_cases hh : R.c.2 = .decreasing
              · have hcode : hintCode R.c.2 = 2 := by rw [hh]; rfl
                have hdec := rd_dec (lt := ltU) (d := dk) (a := a') (b := b') (limit := lim) (wb := wb) (wp := wp) (by rw [← HR.out]; exact hh)
                rw [← HR.out] at hdec
                have HD := Lib.hid hdec
                have hc := reverse_any (a := a') (b := b') hS2.out (by omega) (by omega) (by omega)
                rw [S1] at hc
                have HC2 := Lib.hid hc
                clear hc hdec hh
                go_wp2_with (go_at_call 43; refine HC2.out.mono ?_; rintro e w3 ⟨rfl, hw3⟩; have HW := Lib.hid hw3; clear hw3)
                go_meet
                refine ⟨?_, by rw [HD.out.2.2]; rfl, by rw [HD.out.1]; exact HW⟩
                rw [HD.out.2.1]
                congr 1
                omega
              · have hcode : ¬ (hintCode R.c.2 = 2) := fun h => hh (hintCode_two h)
                have gcode : (hintCode R.c.2 == 2) = false := by rw [beq_eq_false_iff_ne]; exact hcode
                have hdec := rd_not (lt := ltU) (d := dk) (a := a') (b := b') (limit := lim) (wb := wb) (wp := wp) (by rw [← HR.out]; exact hh)
                rw [← HR.out] at hdec
                have HD := Lib.hid hdec
                clear hdec hh
                go_wp2_with fail
                go_meet
                exact ⟨by rw [HD.out.2.1], by rw [HD.out.2.2], by rw [HD.out.1]; exact hS2⟩
            case rest =>
              obtain ⟨rfl, rfl, hS3⟩ := hcut
              obtain ⟨t, ht⟩ : ∃ t, t = (wb && wp && decide (R.hint = .increasing)) := ⟨_, rfl⟩
              have HT := Lib.hid ht
              clear ht
              go_upto_region 15 with fail
              go_cut [12, 68] from 19 to 133 (fun s12 s68 wx => s12 = .int .i64 (hintCode R.hint) ∧ s68 = .bool t ∧ wx = wc)
              case first =>
                cases wb <;> cases wp <;> cases hh3 : R.hint <;>
                  (have hcode3 := congrArg hintCode hh3
                   simp only [hintCode] at hcode3
                   have HH3 := Lib.hid hh3
                   clear hh3
                   go_wp2_with fail
                   go_meet
                   exact ⟨by simp only [HH3.out, hintCode], by simp [HT.out, HH3.out, hintCode], rfl⟩)
              case rest =>
                obtain ⟨rfl, rfl, rfl⟩ := hcut
                go_upto_if 68 with fail
                go_cut [] from 19 to 133 (fun wx => R.pi.2 = false ∧ Hid (SU w0 g cap R.pi.1 wx))
                case first =>
                  cases t
                  · have hpi := rd_pi_no (lt := ltU) (d := dk) (a := a') (b := b') (limit := lim) (wb := wb) (wp := wp) (by rw [← HR.out]; exact HT.out.symm)
                    rw [← HR.out] at hpi
                    have HPI := Lib.hid hpi
                    clear hpi
                    go_wp2_with fail
                    go_meet
                    exact ⟨by rw [HPI.out], by rw [HPI.out]; exact hS3⟩
                  · have hpi := rd_pi_yes (lt := ltU) (d := dk) (a := a') (b := b') (limit := lim) (wb := wb) (wp := wp) (by rw [← HR.out]; exact HT.out.symm)
                    rw [← HR.out] at hpi
                    have hc := partIns_any (a := a') (b := b') hS3.out (by omega) (by omega) (by omega)
                    rw [S2, ← hpi] at hc
                    have HC3 := Lib.hid hc
                    clear hc hpi
                    cases hp2 : R.pi.2
                    · rw [hp2] at HC3
                      have HP2 := Lib.hid hp2
                      clear hp2
                      go_wp2_with (go_at_call 44; refine HC3.out.mono ?_; rintro e w4 ⟨rfl, hw4⟩; have HW := Lib.hid hw4; clear hw4)
                      go_meet
                      exact ⟨HP2.out, HW⟩
                    · rw [hp2] at HC3
                      have HP2 := Lib.hid hp2
                      clear hp2
                      go_wp2_with (go_at_call 44; refine HC3.out.mono ?_; rintro e w4 ⟨rfl, hw4⟩; have HW := Lib.hid hw4; clear hw4)
                      (try simp only [Exit.inBlock, Exit.then]); refine bodyPost_ret (results_none rfl _ _ _) rfl ?_
                      refine ⟨rfl, ?_⟩
                      rw [← A.out, pdq_done h12 hl0 (by rw [← HR.out]; exact HP2.out), ← HR.out]
                      exact HW.out
                case rest =>
                  obtain ⟨hp2, hS4⟩ := hcut
                  have HP2 := Lib.hid hp2
                  obtain ⟨c, hc⟩ : ∃ c, c = (decide (a' > 0) && !ltU R.pi.1[a' - 1]! R.pi.1[R.pivot]!) := ⟨_, rfl⟩
                  have HCC := Lib.hid hc
                  clear hp2 hc hS3 hS2 hS1
                  go_upto_region 17 with fail
                  go_cut [87] from 19 to 133 (fun s87 wx => s87 = .bool c ∧ Hid (SU w0 g cap R.pi.1 wx))
                  case first =>
                    rcases Nat.eq_zero_or_pos a' with ha0 | ha0
                    · subst ha0
                      go_wp2_with fail
                      go_quiet (fail)
                      go_wp2_with fail
                      go_meet
                      exact ⟨by rw [HCC.out]; simp, Lib.hid (hS4.out.drewN _)⟩
                    · obtain ⟨p, rfl⟩ : ∃ p, a' = p + 1 := ⟨a' - 1, by omega⟩
                      have gp : decide ((p : Int) + 1 > 0) = true := decide_eq_true (by omega)
                      have gp' : decide (0 < (p : Int) + 1) = true := decide_eq_true (by omega)
                      obtain ⟨x, hx, cx, fx⟩ := hS4.out.spot (i := p) (by omega)
                      obtain ⟨y, hy, cy, fy⟩ := hS4.out.spot (i := R.pivot) (by omega)
                      go_wp2_with fail
                      go_quiet (first | (go_at_call 45; refine Calls.quiet_of_same (less_any _ _ _)))
                      go_wp2_with fail
                      go_meet
                      exact ⟨by rw [HCC.out, Nat.add_sub_cancel, ← hx.out, ← hy.out]; simp, Lib.hid (hS4.out.drewN _)⟩
                  case rest =>
                    obtain ⟨rfl, hS5⟩ := hcut
                    clear hS4
                    cases c
                    · -- partition
                      obtain ⟨mid, ap, d4, hx⟩ : ∃ mid ap d4, partition ltU R.pi.1 a' b' R.pivot = (mid, ap, d4) := ⟨(partition ltU R.pi.1 a' b' R.pivot).1, (partition ltU R.pi.1 a' b' R.pivot).2.1, (partition ltU R.pi.1 a' b' R.pivot).2.2, rfl⟩
                      obtain ⟨r1, r2, r3, r4, r5, r6, r7⟩ := round_part swoU (partition_holds ltU) hpv1 hpv2 (show b' ≤ R.pi.1.size by omega) HB3.out hx
                      have hc := part_any (a := a') (b := b') (pivot := R.pivot) hS5.out hpv1 hpv2 (by omega) (by omega)
                      rw [hx, S3] at hc
                      have HC4 := Lib.hid hc
                      have X := Lib.hid hx
                      have hs4 : d4.size = n := r3.trans S3
                      have H87 := Lib.hid (show (decide (a' > 0) && !ltU (rd ltU dk a' b' lim wb wp).pi.1[a' - 1]! (rd ltU dk a' b' lim wb wp).pi.1[(rd ltU dk a' b' lim wb wp).pivot]!) = false from by rw [← HR.out]; exact HCC.out.symm)
                      have hdiv : Int.tdiv ((b' : Int) - (a' : Int)) 8 = (((b' - a') / 8 : Nat) : Int) := by rw [Int.tdiv_eq_ediv_of_nonneg (by omega)]; omega
                      obtain ⟨th, hth⟩ : ∃ th, th = (b' - a') / 8 := ⟨_, rfl⟩
                      rw [← hth] at hdiv
                      have HTH := Lib.hid hth
                      have WTH := Lib.hid (show wrap64 (th : Int) = (th : Int) from by unfold wrap64; omega)
                      have R4 := Lib.hid r4
                      have R5 := Lib.hid r5
                      have R6 := Lib.hid r6
                      have R7 := Lib.hid r7
                      have R3 := Lib.hid r3
                      clear hc hx hth r4 r5 r6 r7 r3
                      by_cases h4 : mid - a' < b' - mid
                      · have g4 : decide ((mid : Int) - (a' : Int) < (b' : Int) - (mid : Int)) = true := decide_eq_true (by omega)
                        have bal : decide ((th : Int) ≤ (mid : Int) - (a' : Int)) = decide (mid - a' ≥ th) := by congr 1; rw [eq_iff_iff]; omega
                        have hih := fun w7 (h7 : SU w0 g cap d4 w7) => IH.out a' mid R.lim d4 w7 (by omega) h7 hs4 r1 (by omega) (by omega) R4.out
                        have HIH := Lib.hid hih
                        have pL := pdq_sorts ltU swoU d4 a' mid R.lim true true r1 (by omega) R4.out
                        have PL := Lib.hid pL
                        clear hih pL
                        go_wp2_with (first
                          | (go_at_call 47; refine HC4.out.mono ?_; rintro e w7 ⟨rfl, h7⟩; have H7 := Lib.hid h7; clear h7)
                          | (go_at_call 34; refine (HIH.out _ H7.out).mono ?_; rintro e w8 ⟨rfl, h8⟩; have H8 := Lib.hid h8; clear h8))
                        go_roundg (b' - (mid + 1))
                        case measure => omega
                        case rel =>
                          refine ⟨mid + 1, b', R.lim, decide (mid - a' ≥ th), ap, pdq ltU d4 a' mid R.lim true true, by go_num, rfl, rfl, ?_, rfl, by omega, by omega, Nat.le_refl _, by omega, by omega, by rw [PL.out.1.1, hs4], Lib.hid (R6.out _ PL.out.1 PL.out.2).1, H8, Lib.hid ?_⟩
                          · first | exact congrArg Value.bool bal | (rw [WTH.out]; first | done | exact congrArg Value.bool bal)
                          · rw [← A.out, pdq_left h12 hl0 (by rw [← HR.out]; exact HP2.out) H87.out (by rw [← HR.out, X.out]; exact ⟨r1, r2⟩) (by rw [← HR.out, X.out]; exact h4), ← HR.out, X.out, HTH.out]
                      · have g4 : decide ((mid : Int) - (a' : Int) < (b' : Int) - (mid : Int)) = false := decide_eq_false (by omega)
                        have bal : decide ((th : Int) ≤ (b' : Int) - (mid : Int)) = decide (b' - mid ≥ th) := by congr 1; rw [eq_iff_iff]; omega
                        have hih := fun w7 (h7 : SU w0 g cap d4 w7) => IH.out (mid + 1) b' R.lim d4 w7 (by omega) h7 hs4 (by omega) (by omega) (by omega) R5.out
                        rw [show ((mid + 1 : Nat) : Int) = (mid : Int) + 1 by omega] at hih
                        have HIH := Lib.hid hih
                        have pL := pdq_sorts ltU swoU d4 (mid + 1) b' R.lim true true (by omega) (by omega) R5.out
                        have PL := Lib.hid pL
                        clear hih pL
                        go_wp2_with (first
                          | (go_at_call 47; refine HC4.out.mono ?_; rintro e w7 ⟨rfl, h7⟩; have H7 := Lib.hid h7; clear h7)
                          | (go_at_call 34; refine (HIH.out _ H7.out).mono ?_; rintro e w8 ⟨rfl, h8⟩; have H8 := Lib.hid h8; clear h8))
                        go_roundg (mid - a')
                        case measure => omega
                        case rel =>
                          refine ⟨a', mid, R.lim, decide (b' - mid ≥ th), ap, pdq ltU d4 (mid + 1) b' R.lim true true, rfl, rfl, rfl, ?_, rfl, by omega, by omega, Nat.le_refl _, by omega, by omega, by rw [PL.out.1.1, hs4], Lib.hid (R7.out _ PL.out.1 PL.out.2).1, H8, Lib.hid ?_⟩
                          · first | exact congrArg Value.bool bal | (rw [WTH.out]; first | done | exact congrArg Value.bool bal)
                          · rw [← A.out, pdq_right h12 hl0 (by rw [← HR.out]; exact HP2.out) H87.out (by rw [← HR.out, X.out]; exact ⟨r1, r2⟩) (by rw [← HR.out, X.out]; exact h4), ← HR.out, X.out, HTH.out]
                    · -- partitionEqual
                      have htr := and_true HCC.out
                      obtain ⟨mid, d4, hx⟩ : ∃ mid d4, partitionEqual ltU R.pi.1 a' b' R.pivot = (mid, d4) := ⟨(partitionEqual ltU R.pi.1 a' b' R.pivot).1, (partitionEqual ltU R.pi.1 a' b' R.pivot).2, rfl⟩
                      obtain ⟨r1, r2, r3, r4, r5⟩ := round_eq swoU (partitionEqual_holds ltU) htr.1 hpv1 hpv2 (show b' ≤ R.pi.1.size by omega) HB3.out (by simpa using htr.2) hx
                      have hc := partEq_any (a := a') (b := b') (pivot := R.pivot) hS5.out hpv1 hpv2 (by omega) (by omega)
                      rw [hx, S3] at hc
                      have HC4 := Lib.hid hc
                      have X := Lib.hid hx
                      have hs4 : d4.size = n := r3.trans S3
                      have H87 := Lib.hid (show (decide (a' > 0) && !ltU (rd ltU dk a' b' lim wb wp).pi.1[a' - 1]! (rd ltU dk a' b' lim wb wp).pi.1[(rd ltU dk a' b' lim wb wp).pivot]!) = true from by rw [← HR.out]; exact HCC.out.symm)
                      have R4 := Lib.hid r4
                      clear hc hx htr r3 r4 r5
                      go_wp2_with (go_at_call 46; refine HC4.out.mono ?_; rintro e w7 ⟨rfl, h7⟩; have H7 := Lib.hid h7; clear h7)
                      go_roundg (b' - mid)
                      case measure => omega
                      case rel =>
                        refine ⟨mid, b', R.lim, wb, wp, d4, rfl, rfl, rfl, rfl, rfl, by omega, by omega, Nat.le_refl _, by omega, by omega, hs4, R4, H7, Lib.hid ?_⟩
                        rw [← A.out, pdq_eq h12 hl0 (by rw [← HR.out]; exact HP2.out) H87.out (by rw [← HR.out, X.out]; exact ⟨r1, r2⟩), ← HR.out, X.out]
end Go.Proofs.Ytfdpcjdghmdkkaa.Hp
