/- partialInsertionSortOrdered over words. -/
import Derived.Test.YtfdpcjdghmdkkaaS7
import Derived.Sort.WalkA6
set_option linter.unusedSimpArgs false
set_option linter.unusedVariables false
namespace Go.Proofs.Ytfdpcjdghmdkkaa.Hp
open Go.RowKit Go.Sort
theorem shiftDown_size : ∀ (j : Nat) (d : Array Nat), (shiftDown ltU j d).size = d.size
  | 0, d => by rw [shiftDown]
  | j + 1, d => by
    rw [shiftDown]
    split
    · rfl
    · rw [shiftDown_size j, size_swp]
theorem shiftUp_size (b : Nat) : ∀ (n j : Nat) (d : Array Nat), b - j = n → (shiftUp ltU b j d).size = d.size := by
  intro n
  induction n with
  | zero => intro j d h; rw [shiftUp, if_neg (by omega)]
  | succ n ih =>
    intro j d h
    rw [shiftUp, if_pos (by omega)]
    split
    · rfl
    · rw [ih (j + 1) _ (by omega), size_swp]
theorem fixDown_size (a i : Nat) (d : Array Nat) : (fixDown ltU a i d).size = d.size := by
  unfold fixDown
  split
  · exact shiftDown_size _ _
  · rfl
theorem fixUp_size (b i : Nat) (d : Array Nat) : (fixUp ltU b i d).size = d.size := by
  unfold fixUp
  split
  · exact shiftUp_size b _ _ d rfl
  · rfl
section
variable {w0 w : World} {g cap : Nat} {d : Array Nat}
set_option maxRecDepth 100000 in
set_option maxHeartbeats 12800000 in
theorem partIns_any {a b : Nat} (h : SU w0 g cap d w) (hab : a < b) (hb : b ≤ d.size) (hsz : d.size < 1152921504606846976) :
    Calls Try.prog 44 #[.slice (some ⟨g, 0, none⟩) d.size cap, .int .i64 a, .int .i64 b] w fun e w' =>
      e = .returned (.bool (partialInsertionSort ltU d a b).2) ∧ SU w0 g cap (partialInsertionSort ltU d a b).1 w' := by
  have H := Lib.hid h
  clear h
  go_enter Try.func44, Try.ntmps44
  go_wp2
  go_loopg [7, 8] 5 (fun gh vi vs wr => ∃ (i s : Nat) (dk : Array Nat), vi = .int .i64 (i : Nat) ∧ vs = .int .i64 (s : Nat) ∧ a < i ∧ i ≤ b ∧ s ≤ 5 ∧ 5 - s ≤ gh ∧ dk.size = d.size ∧ Hid (SU w0 g cap dk wr) ∧ Hid (partialIns ltU a b (5 - s) i dk = partialIns ltU a b 5 (a + 1) d))
  case atStart => exact ⟨a + 1, 0, d, by go_num, rfl, by omega, by omega, by omega, by omega, rfl, H, Lib.hid rfl⟩
  case round =>
    obtain ⟨i1, s, dk, rfl, rfl, hai1, hib1, hs5, hgh, hsk, hS, heq⟩ := hrel
    by_cases hs : s < 5
    · have hd5 : decide ((s : Int) < 5) = true := decide_eq_true (by omega)
      obtain ⟨t, ht⟩ : ∃ t, t = 4 - s := ⟨_, rfl⟩
      have ht5 : 5 - s = t + 1 := by omega
      have ht6 : 5 - (s + 1) = t := by omega
      have HT6 := Lib.hid ht6
      clear ht6
      rw [ht5] at heq
      have HEQ := Lib.hid heq.out
      clear heq ht5
      go_wp2
      go_loopg [7] (b - i1) (fun gh3 vi wr3 => ∃ (i : Nat), vi = .int .i64 (i : Nat) ∧ i1 ≤ i ∧ i ≤ b ∧ b - i ≤ gh3 ∧ Hid (SU w0 g cap dk wr3) ∧ Hid (scanSorted ltU dk b i = scanSorted ltU dk b i1))
      case atStart => exact ⟨i1, rfl, by omega, by omega, by omega, hS, Lib.hid rfl⟩
      case round =>
        obtain ⟨i, rfl, hii, hib, hgi, hS1, hR⟩ := hrel
        obtain ⟨cc, hcc⟩ : ∃ c, c = (decide (i < b) && !ltU dk[i]! dk[i - 1]!) := ⟨_, rfl⟩
        have HC := Lib.hid hcc
        clear hcc
        obtain ⟨p, rfl⟩ : ∃ p, i = p + 1 := ⟨i - 1, by omega⟩
        have zp : ((p + 1 : Nat) : Int) - 1 = (p : Int) := by omega
        go_upto_region 5 with fail
        go_cut [32] from 17 to 34 (fun sc wc => sc = .bool cc ∧ Hid (SU w0 g cap dk wc))
        case first =>
          by_cases hlt : p + 1 < b
          · have gl : decide ((p : Int) + 1 < (b : Int)) = true := decide_eq_true (by omega)
            obtain ⟨x, hx, cx, fx⟩ := hS1.out.spot (i := p + 1) (by omega)
            obtain ⟨y, hy, cy, fy⟩ := hS1.out.spot (i := p) (by omega)
            go_wp2_with fail
            go_quiet (first | (go_at_call 45; refine Calls.quiet_of_same (less_any _ _ _)))
            go_wp2_with fail
            go_meet
            exact ⟨by rw [HC.out, Nat.add_sub_cancel, ← hx.out, ← hy.out]; simp [hlt], Lib.hid (hS1.out.drewN _)⟩
          · have gl : decide ((p : Int) + 1 < (b : Int)) = false := decide_eq_false (by omega)
            go_wp2_with fail
            go_quiet (fail)
            go_wp2_with fail
            go_meet
            exact ⟨by rw [HC.out]; simp [hlt], Lib.hid (hS1.out.drewN _)⟩
        case rest =>
          obtain ⟨rfl, hS3⟩ := hcut
          cases cc
          · have HFA := and_false HC.out
            have hsc : p + 1 = scanSorted ltU dk b i1 := (scanSorted_stop ltU dk b (p + 1) (HFA.imp id fun h => by simpa using h)).symm.trans hR.out
            have HSC := Lib.hid hsc
            clear HFA hsc
            by_cases hend : p + 1 = b
            · have ge : (((p : Int) + 1) == (b : Int)) = true := by rw [beq_iff_eq]; omega
              have HF := Lib.hid (show partialIns ltU a b (t + 1) i1 dk = (dk, true) from by rw [partialIns_succ, ← HSC.out, if_pos hend])
              have heb : (p : Int) + 1 = (b : Int) := by omega
              go_wp2
              go_ret
              unfold partialInsertionSort
              rw [← HEQ.out, HF.out]
              exact ⟨rfl, hS3.out⟩
            · have ge : (((p : Int) + 1) == (b : Int)) = false := by rw [beq_eq_false_iff_ne]; omega
              have hne : ¬ (p : Int) + 1 = (b : Int) := by omega
              by_cases h50 : b - a < 50
              · have g50 : decide ((b : Int) - (a : Int) < 50) = true := decide_eq_true (by omega)
                have HF := Lib.hid (show partialIns ltU a b (t + 1) i1 dk = (dk, false) from by rw [partialIns_succ, ← HSC.out, if_neg hend, if_pos h50])
                go_wp2
                go_ret
                unfold partialInsertionSort
                rw [← HEQ.out, HF.out]
                exact ⟨rfl, hS3.out⟩
              · have g50 : decide ((b : Int) - (a : Int) < 50) = false := decide_eq_false (by omega)
                have HF := Lib.hid (show partialIns ltU a b t (p + 1) (fixUp ltU b (p + 1) (fixDown ltU a (p + 1) (swp dk (p + 1) p))) = partialIns ltU a b 5 (a + 1) d from by
                  rw [← HEQ.out, partialIns_succ, ← HSC.out, if_neg hend, if_neg h50, Nat.add_sub_cancel])
                go_upto_region 11 with fail
                go_cut [] from 13 to 132 (fun wc => Hid (SU w0 g cap (swp dk (p + 1) p) wc))
                case first =>
                  obtain ⟨x, hx, cx, fx⟩ := hS3.out.spot (i := p + 1) (by omega)
                  obtain ⟨y, hy, cy, fy⟩ := hS3.out.spot (i := p) (by omega)
                  go_wp2_with fail
                  go_region
                  all_goals
                    go_wp2_with fail
                    go_meet
                    exact Lib.hid ((hS3.out.drew).swap' (by omega) (by omega) hx hy)
                case rest =>
                  have hS4 := hcut
                  obtain ⟨i, hi⟩ : ∃ i, i = p + 1 := ⟨_, rfl⟩
                  have hs1 : (swp dk (p + 1) p).size = d.size := by rw [size_swp]; exact hsk
                  rw [← hi] at hS4 hs1 HF
                  have zi : ((p : Int) + 1) = (i : Int) := by omega
                  obtain ⟨d1, hd1⟩ : ∃ d1, d1 = swp dk i p := ⟨_, rfl⟩
                  rw [← hd1] at hS4 hs1 HF
                  clear hd1
                  have bi : a < i ∧ i < b ∧ i1 ≤ i := by omega
                  obtain ⟨bi1, bi2, bi3⟩ := bi
                  clear hi
                  go_upto_if 61 with fail
                  go_cut [9] from 13 to 132 (fun s9 wc => Hid (SU w0 g cap (fixDown ltU a i d1) wc))
                  case first =>
                    by_cases h2 : 2 ≤ i - a
                    · have g2 : decide ((i : Int) - (a : Int) ≥ 2) = true := decide_eq_true (by omega)
                      have g2' : decide (2 ≤ (i : Int) - (a : Int)) = true := decide_eq_true (by omega)
                      go_wp2
                      go_loopg [9] (i - 1) (fun gh2 vj wr2 => ∃ (j : Nat) (dj : Array Nat), vj = .int .i64 (j : Nat) ∧ j ≤ i - 1 ∧ j ≤ gh2 ∧ dj.size = d.size ∧ Hid (SU w0 g cap dj wr2) ∧ Hid (shiftDown ltU j dj = shiftDown ltU (i - 1) d1))
                      case atStart => exact ⟨i - 1, d1, by go_num, by omega, by omega, hs1, hS4, Lib.hid rfl⟩
                      case round =>
                        obtain ⟨j, dj, rfl, hj1, hgj, hsj, hS2, hI⟩ := hrel
                        by_cases hg : 1 ≤ j
                        · obtain ⟨q, rfl⟩ : ∃ q, j = q + 1 := ⟨j - 1, by omega⟩
                          have gg0 : decide ((1 : Int) ≤ ((q : Int) + 1)) = true := decide_eq_true (by omega)
                          have gg1 : decide (((q : Int) + 1) ≥ 1) = true := decide_eq_true (by omega)
                          obtain ⟨x, hx, cx, fx⟩ := hS2.out.spot (i := q + 1) (by omega)
                          obtain ⟨y, hy, cy, fy⟩ := hS2.out.spot (i := q) (by omega)
                          have zq : ((q + 1 : Nat) : Int) - 1 = (q : Int) := by omega
                          cases hl : ltU x y
                          · have HE := Lib.hid (show dj = shiftDown ltU (i - 1) d1 from by
                              rw [← hI.out]
                              exact (shiftDown_stop ltU _ _ (.inr (by rw [Nat.add_sub_cancel, ← hx.out, ← hy.out]; exact hl))).symm)
                            go_wp2
                            go_quiet (first | (go_at_call 45; refine Calls.quiet_of_same (less_any _ _ _)))
                            go_wp2
                            go_meet
                            refine Lib.hid ?_
                            unfold fixDown
                            rw [if_pos (by omega), ← HE.out]
                            exact (hS2.out.drewN _)
                          · have HE := Lib.hid (show shiftDown ltU (q) (swp dj (q + 1) q) = shiftDown ltU (i - 1) d1 from by
                              rw [← hI.out]
                              exact (shiftDown_go ltU (q + 1) dj (by omega) (by rw [Nat.add_sub_cancel, ← hx.out, ← hy.out]; exact hl)).symm)
                            go_wp2
                            go_quiet (first | (go_at_call 45; refine Calls.quiet_of_same (less_any _ _ _)))
                            have HSN := Lib.hid (hS2.out.drewN nq)
                            clear cx fx cy fy
                            generalize wr.drewN nq = wq at HSN ⊢
                            obtain ⟨cx, fx⟩ := HSN.out.at_ (by omega) hx
                            obtain ⟨cy, fy⟩ := HSN.out.at_ (by omega) hy
                            go_wp2
                            go_region
                            all_goals
                              go_wp2
                              go_roundg q
                              case rel =>
                                refine ⟨q, swp dj (q + 1) q, by go_num, by omega, by omega, by rw [size_swp]; exact hsj, Lib.hid ?_, HE⟩
                                exact (HSN.out.drew).swap' (by omega) (by omega) hx hy
                              case measure => omega
                        · have hE : dj = shiftDown ltU (i - 1) d1 := by
                            rw [← hI.out]
                            exact (shiftDown_stop ltU _ _ (.inl (by omega))).symm
                          have HE := Lib.hid hE
                          clear hE
                          have gg0 : decide ((1 : Int) ≤ (j : Int)) = false := decide_eq_false (by omega)
                          have gg1 : decide ((j : Int) ≥ 1) = false := decide_eq_false (by omega)
                          go_wp2
                          go_meet
                          refine Lib.hid ?_
                          unfold fixDown
                          rw [if_pos (by omega), ← HE.out]
                          exact hS2.out

                    · have g2 : decide ((i : Int) - (a : Int) ≥ 2) = false := decide_eq_false (by omega)
                      have g2' : decide (2 ≤ (i : Int) - (a : Int)) = false := decide_eq_false (by omega)
                      go_wp2_with fail
                      go_meet
                      refine Lib.hid ?_
                      unfold fixDown
                      rw [if_neg (by omega)]
                      exact hS4.out
                  case rest =>
                    have hS5 := hcut
                    have hs2 : (fixDown ltU a i d1).size = d.size := by rw [fixDown_size]; exact hs1
                    obtain ⟨d2, hd2⟩ : ∃ d2, d2 = fixDown ltU a i d1 := ⟨_, rfl⟩
                    rw [← hd2] at hS5 hs2 HF
                    clear hd2
                    have hs1 := hs2
                    have hs3 : (fixUp ltU b i d2).size = d.size := by rw [fixUp_size]; exact hs2
                    by_cases h2 : 2 ≤ b - i
                    · have g2 : decide ((b : Int) - (i : Int) ≥ 2) = true := decide_eq_true (by omega)
                      have g2' : decide (2 ≤ (b : Int) - (i : Int)) = true := decide_eq_true (by omega)
                      go_wp2
                      go_loopg [10] (b - (i + 1)) (fun gh2 vj wr2 => ∃ (j : Nat) (dj : Array Nat), vj = .int .i64 (j : Nat) ∧ i + 1 ≤ j ∧ j ≤ b ∧ b - j ≤ gh2 ∧ dj.size = d.size ∧ Hid (SU w0 g cap dj wr2) ∧ Hid (shiftUp ltU b j dj = shiftUp ltU b (i + 1) d2))
                      case atStart => exact ⟨i + 1, d2, by go_num, by omega, by omega, by omega, hs1, hS5, Lib.hid rfl⟩
                      case round =>
                        obtain ⟨j, dj, rfl, hj1, hj2, hgj, hsj, hS2, hI⟩ := hrel
                        by_cases hg : j < b
                        · obtain ⟨q, rfl⟩ : ∃ q, j = q + 1 := ⟨j - 1, by omega⟩
                          have gg0 : decide (((q : Int) + 1) < (b : Int)) = true := decide_eq_true (by omega)
                          obtain ⟨x, hx, cx, fx⟩ := hS2.out.spot (i := q + 1) (by omega)
                          obtain ⟨y, hy, cy, fy⟩ := hS2.out.spot (i := q) (by omega)
                          have zq : ((q + 1 : Nat) : Int) - 1 = (q : Int) := by omega
                          cases hl : ltU x y
                          · have HE := Lib.hid (show dj = shiftUp ltU b (i + 1) d2 from by
                              rw [← hI.out]
                              exact (shiftUp_stop ltU b _ _ (.inr (by rw [Nat.add_sub_cancel, ← hx.out, ← hy.out]; exact hl))).symm)
                            go_wp2
                            go_quiet (first | (go_at_call 45; refine Calls.quiet_of_same (less_any _ _ _)))
                            go_wp2
                            go_roundg t
                            case rel => exact ⟨i, s + 1, fixUp ltU b i d2, by first | rfl | go_num, by go_num, by omega, by omega, by omega, by omega, hs3, Lib.hid (by unfold fixUp; rw [if_pos (by omega), ← HE.out]; exact (hS2.out.drewN _)), by rw [HT6.out]; exact HF⟩
                            case measure => omega
                          · have HE := Lib.hid (show shiftUp ltU b (q + 1 + 1) (swp dj (q + 1) q) = shiftUp ltU b (i + 1) d2 from by
                              rw [← hI.out]
                              exact (shiftUp_go ltU b (q + 1) dj (by omega) (by rw [Nat.add_sub_cancel, ← hx.out, ← hy.out]; exact hl)).symm)
                            go_wp2
                            go_quiet (first | (go_at_call 45; refine Calls.quiet_of_same (less_any _ _ _)))
                            have HSN := Lib.hid (hS2.out.drewN nq)
                            clear cx fx cy fy
                            generalize wr.drewN nq = wq at HSN ⊢
                            obtain ⟨cx, fx⟩ := HSN.out.at_ (by omega) hx
                            obtain ⟨cy, fy⟩ := HSN.out.at_ (by omega) hy
                            go_wp2
                            go_region
                            all_goals
                              go_wp2
                              go_roundg (b - (q + 1 + 1))
                              case rel =>
                                refine ⟨q + 1 + 1, swp dj (q + 1) q, by go_num, by omega, by omega, by omega, by rw [size_swp]; exact hsj, Lib.hid ?_, HE⟩
                                exact (HSN.out.drew).swap' (by omega) (by omega) hx hy
                              case measure => omega
                        · have hE : dj = shiftUp ltU b (i + 1) d2 := by
                            rw [← hI.out]
                            exact (shiftUp_stop ltU b _ _ (.inl (by omega))).symm
                          have HE := Lib.hid hE
                          clear hE
                          have gg0 : decide ((j : Int) < (b : Int)) = false := decide_eq_false (by omega)
                          go_wp2
                          go_roundg t
                          case rel => exact ⟨i, s + 1, fixUp ltU b i d2, by first | rfl | go_num, by go_num, by omega, by omega, by omega, by omega, hs3, Lib.hid (by unfold fixUp; rw [if_pos (by omega), ← HE.out]; exact hS2.out), by rw [HT6.out]; exact HF⟩
                          case measure => omega

                    · have g2 : decide ((b : Int) - (i : Int) ≥ 2) = false := decide_eq_false (by omega)
                      have g2' : decide (2 ≤ (b : Int) - (i : Int)) = false := decide_eq_false (by omega)
                      have HZ := Lib.hid (show SU w0 g cap (fixUp ltU b i d2) wc from by unfold fixUp; rw [if_neg (by omega)]; exact hS5.out)
                      go_wp2
                      go_roundg t
                      case rel => exact ⟨i, s + 1, fixUp ltU b i d2, by first | rfl | go_num, by go_num, by omega, by omega, by omega, by omega, hs3, HZ, by rw [HT6.out]; exact HF⟩
                      case measure => omega
          · have HTR := and_true HC.out
            have hle := HTR.1
            have HE := Lib.hid ((scanSorted_go ltU dk b (p + 1) HTR.1 (by simpa using HTR.2)).symm.trans hR.out)
            clear HTR
            go_wp2
            go_roundg (b - (p + 1) - 1)
            case rel => exact ⟨p + 1 + 1, by go_num, by omega, by omega, by omega, hS3, HE⟩
            case measure => omega
    · have hd5 : decide ((s : Int) < 5) = false := decide_eq_false (by omega)
      have h0 : 5 - s = 0 := by omega
      rw [h0] at heq
      go_wp2
      go_ret
      unfold partialInsertionSort
      rw [← heq.out]
      exact ⟨rfl, hS.out⟩
end
end Go.Proofs.Ytfdpcjdghmdkkaa.Hp
