/- partitionOrdered over words. -/
import Derived.Test.YtfdpcjdghmdkkaaS6
set_option linter.unusedSimpArgs false
set_option linter.unusedVariables false
namespace Go.Proofs.Ytfdpcjdghmdkkaa.Hp
open Go.RowKit Go.Sort
theorem part_far (d : Array Nat) (a b pivot : Nat) {i j : Nat} (hi : i = scanUp (fun x => ltU x (swp d a pivot)[a]!) (swp d a pivot) (b - 1) (a + 1)) (hj : j = scanDown (fun x => !ltU x (swp d a pivot)[a]!) (swp d a pivot) i (b - 1)) (h : j < i) :
    partition ltU d a b pivot = (j, true, swp (swp d a pivot) j a) := by
  subst hi; subst hj
  unfold partition
  simp only []
  rw [if_pos h]
theorem part_near (d : Array Nat) (a b pivot : Nat) {i j : Nat} (hi : i = scanUp (fun x => ltU x (swp d a pivot)[a]!) (swp d a pivot) (b - 1) (a + 1)) (hj : j = scanDown (fun x => !ltU x (swp d a pivot)[a]!) (swp d a pivot) i (b - 1)) (h : ¬ j < i) :
    partition ltU d a b pivot = ((partLoop ltU a (i + 1) (j - 1) (swp (swp d a pivot) i j)).1, false, swp (partLoop ltU a (i + 1) (j - 1) (swp (swp d a pivot) i j)).2 (partLoop ltU a (i + 1) (j - 1) (swp (swp d a pivot) i j)).1 a) := by
  subst hi; subst hj
  unfold partition
  simp only []
  rw [if_neg h]
theorem loop_far (a i j : Nat) (dk : Array Nat) {i2 j2 : Nat} (hi : i2 = scanUp (fun x => ltU x dk[a]!) dk j i) (hj : j2 = scanDown (fun x => !ltU x dk[a]!) dk i2 j) (h : j2 < i2) : partLoop ltU a i j dk = (j2, dk) := by
  subst hi; subst hj
  rw [partLoop_eq, if_pos h]
theorem loop_near (a i j : Nat) (dk : Array Nat) {i2 j2 : Nat} (hi : i2 = scanUp (fun x => ltU x dk[a]!) dk j i) (hj : j2 = scanDown (fun x => !ltU x dk[a]!) dk i2 j) (h : ¬ j2 < i2) : partLoop ltU a i j dk = partLoop ltU a (i2 + 1) (j2 - 1) (swp dk i2 j2) := by
  subst hi; subst hj
  rw [partLoop_eq, if_neg h]
section
variable {w0 w : World} {g cap : Nat} {d : Array Nat}
set_option maxRecDepth 100000 in
set_option maxHeartbeats 12800000 in
theorem part_any {a b pivot : Nat} (h : SU w0 g cap d w) (hap : a ≤ pivot) (hpb : pivot < b) (hb : b ≤ d.size) (hsz : d.size < 1152921504606846976) :
    Calls Try.prog 47 #[.slice (some ⟨g, 0, none⟩) d.size cap, .int .i64 a, .int .i64 b, .int .i64 pivot] w fun e w' =>
      e = .returned (.tuple #[.int .i64 ((partition ltU d a b pivot).1 : Nat), .bool (partition ltU d a b pivot).2.1]) ∧ SU w0 g cap (partition ltU d a b pivot).2.2 w' := by
  have H := Lib.hid h
  clear h
  obtain ⟨bb, rfl⟩ : ∃ bb, b = bb + 1 := ⟨b - 1, by omega⟩
  go_enter Try.func47, Try.ntmps47
  go_upto_region 1 with fail
  go_cut [] from 12 (fun wc => Hid (SU w0 g cap (swp d (a) (pivot)) wc))
  case first =>
    obtain ⟨x, hx, cx, fx⟩ := H.out.spot (i := a) (by omega)
    obtain ⟨y, hy, cy, fy⟩ := H.out.spot (i := pivot) (by omega)
    by_cases hal : (a) = (pivot)
    · have hxy : x = y := by rw [hx.out, hy.out, hal]
      subst hxy
      rw [hal] at hx cx fx
      have HAL := Lib.hid hal
      have hali : ((a : Nat) : Int) = ((pivot : Nat) : Int) := by rw [hal]
      clear hal
      go_wp2_with fail
      go_region
      all_goals
        go_wp2_with fail
        go_meet
        refine Lib.hid ?_
        have hh := (H.out.drew).swap' (i := pivot) (j := pivot) (by omega) (by omega) hx hx
        have he := HAL.out
        first | exact hh | (rw [he]; exact hh) | (simp only [he]; exact hh) | (subst he; exact hh)
    · have hal2 : ¬ (pivot) = (a) := fun e => hal e.symm
      go_wp2_with fail
      go_region
      all_goals
        go_wp2_with fail
        go_meet
        exact Lib.hid ((H.out.drew).swap' (by omega) (by omega) hx hy)
  case rest =>
    have HSN := hcut
    have hsk : (swp d a pivot).size = d.size := size_swp _ _ _
    obtain ⟨dk, hdk⟩ : ∃ dk, dk = swp d a pivot := ⟨_, rfl⟩
    rw [← hdk] at HSN hsk
    have HDK := Lib.hid hdk.symm
    clear hdk
    go_wp2

    go_loopg [10] (bb + 1 - ((a + 1))) (fun ghU vU wrU => ∃ (iU : Nat), vU = .int .i64 (iU : Nat) ∧ (a + 1) ≤ iU ∧ iU ≤ bb + 1 ∧ bb + 1 - iU ≤ ghU ∧ Hid (SU w0 g cap dk wrU) ∧ Hid (scanUp (fun x => ltU x dk[a]!) dk (bb) iU = scanUp (fun x => ltU x dk[a]!) dk (bb) ((a + 1))))
    case atStart => exact ⟨(a + 1), by first | rfl | go_num, by omega, by omega, by omega, HSN, Lib.hid rfl⟩
    case round =>
      obtain ⟨iU, rfl, hb1U, hb2U, hghU, hSU, hRU⟩ := hrel
      have hposU : 0 < bb ∨ ¬ (iU ≤ bb) := by omega
      obtain ⟨cU, hcU⟩ : ∃ c, c = (decide (iU ≤ bb) && ltU dk[iU]! dk[a]!) := ⟨_, rfl⟩
      have HCU := Lib.hid hcU
      clear hcU
      go_upto_region 3 with fail
      go_cut [43] from 30 to 45 (fun sc wc => sc = .bool cU ∧ Hid (SU w0 g cap dk wc))
      case first =>
        by_cases hle : iU ≤ bb
        · have gle : decide (((iU : Nat) : Int) ≤ ((bb : Nat) : Int)) = true := decide_eq_true (by omega)
          have gle1 := hle
          obtain ⟨xa, hxa, cxa, fxa⟩ := hSU.out.spot (i := a) (by omega)
          obtain ⟨xe, hxe, cxe, fxe⟩ := hSU.out.spot (i := iU) (by omega)
          go_wp2_with fail
          go_quiet (first | (go_at_call 45; refine Calls.quiet_of_same (less_any _ _ _)))
          go_wp2_with fail
          go_meet
          exact ⟨by rw [HCU.out, ← hxa.out, ← hxe.out]; simp [hle], Lib.hid (hSU.out.drewN _)⟩
        · have gle : decide (((iU : Nat) : Int) ≤ ((bb : Nat) : Int)) = false := decide_eq_false (by omega)
          go_wp2_with fail
          go_quiet (fail)
          go_wp2_with fail
          go_meet
          exact ⟨by rw [HCU.out]; simp [hle], Lib.hid (hSU.out.drewN _)⟩
      case rest =>
        obtain ⟨rfl, hSU2⟩ := hcut
        cases cU
        · have HFA := and_false HCU.out
          have HEU := Lib.hid ((scanUp_end (fun x => ltU x dk[a]!) dk (bb) iU HFA).symm.trans hRU.out)
          clear HFA
          go_wp2

          go_loopg [11] (bb + 1 - (iU)) (fun ghD vD wrD => ∃ (jD : Nat), vD = .int .i64 (jD : Nat) ∧ jD ≤ bb ∧ iU ≤ jD + 1 ∧ jD + 1 - iU ≤ ghD ∧ Hid (SU w0 g cap dk wrD) ∧ Hid (scanDown (fun x => !ltU x dk[a]!) dk (iU) jD = scanDown (fun x => !ltU x dk[a]!) dk (iU) (bb)))
          case atStart => exact ⟨bb, by first | rfl | go_num, by omega, by omega, by omega, hSU2, Lib.hid rfl⟩
          case round =>
            obtain ⟨jD, rfl, hb1D, hb2D, hghD, hSD, hRD⟩ := hrel
            have hposD : 0 < jD ∨ ¬ (iU ≤ jD) := by omega
            obtain ⟨cD, hcD⟩ : ∃ c, c = (decide (iU ≤ jD) && !ltU dk[jD]! dk[a]!) := ⟨_, rfl⟩
            have HCD := Lib.hid hcD
            clear hcD
            go_upto_region 5 with fail
            go_cut [60] from 46 to 62 (fun sc wc => sc = .bool cD ∧ Hid (SU w0 g cap dk wc))
            case first =>
              by_cases hle : iU ≤ jD
              · have gle : decide (((iU : Nat) : Int) ≤ ((jD : Nat) : Int)) = true := decide_eq_true (by omega)
                have gle1 := hle
                obtain ⟨xa, hxa, cxa, fxa⟩ := hSD.out.spot (i := a) (by omega)
                obtain ⟨xe, hxe, cxe, fxe⟩ := hSD.out.spot (i := jD) (by omega)
                go_wp2_with fail
                go_quiet (first | (go_at_call 45; refine Calls.quiet_of_same (less_any _ _ _)))
                go_wp2_with fail
                go_meet
                exact ⟨by rw [HCD.out, ← hxa.out, ← hxe.out]; simp [hle], Lib.hid (hSD.out.drewN _)⟩
              · have gle : decide (((iU : Nat) : Int) ≤ ((jD : Nat) : Int)) = false := decide_eq_false (by omega)
                go_wp2_with fail
                go_quiet (fail)
                go_wp2_with fail
                go_meet
                exact ⟨by rw [HCD.out]; simp [hle], Lib.hid (hSD.out.drewN _)⟩
            case rest =>
              obtain ⟨rfl, hSD2⟩ := hcut
              cases cD
              · have HFA := and_false HCD.out
                have HED := Lib.hid ((scanDown_end (fun x => !ltU x dk[a]!) dk (iU) jD HFA).symm.trans hRD.out)
                clear HFA
                by_cases hgt : jD < iU
                · have HP := Lib.hid (part_far d a (bb + 1) pivot (i := iU) (j := jD) (by rw [HDK.out]; exact HEU.out) (by rw [HDK.out]; exact HED.out) hgt)
                  go_wp2
                  go_upto_region 8 with fail
                  go_cut [] from 12 (fun wc => Hid (SU w0 g cap (swp dk (jD) (a)) wc))
                  case first =>
                    obtain ⟨x, hx, cx, fx⟩ := hSD2.out.spot (i := jD) (by omega)
                    obtain ⟨y, hy, cy, fy⟩ := hSD2.out.spot (i := a) (by omega)
                    by_cases hal : (jD) = (a)
                    · have hxy : x = y := by rw [hx.out, hy.out, hal]
                      subst hxy
                      rw [hal] at hx cx fx
                      have HAL := Lib.hid hal
                      have hali : ((jD : Nat) : Int) = ((a : Nat) : Int) := by rw [hal]
                      clear hal
                      go_wp2_with fail
                      go_region
                      all_goals
                        go_wp2_with fail
                        go_meet
                        refine Lib.hid ?_
                        have hh := (hSD2.out.drew).swap' (i := a) (j := a) (by omega) (by omega) hx hx
                        have he := HAL.out
                        first | exact hh | (rw [he]; exact hh) | (simp only [he]; exact hh) | (subst he; exact hh)
                    · have hal2 : ¬ (a) = (jD) := fun e => hal e.symm
                      go_wp2_with fail
                      go_region
                      all_goals
                        go_wp2_with fail
                        go_meet
                        exact Lib.hid ((hSD2.out.drew).swap' (by omega) (by omega) hx hy)
                  case rest =>
                    have HSN := hcut
                    go_wp2
                    go_ret2
                    rw [HP.out, HDK.out]
                    exact ⟨rfl, HSN.out⟩
                · have hlt : iU < jD := scans_ne (fun x => ltU x dk[a]!) (fun x => !ltU x dk[a]!) (fun x => rfl) (a + 1) bb dk (by omega) HEU.out HED.out (by omega)
                  have HPN := Lib.hid (part_near d a (bb + 1) pivot (i := iU) (j := jD) (by rw [HDK.out]; exact HEU.out) (by rw [HDK.out]; exact HED.out) (by omega))
                  go_wp2
                  go_upto_region 10 with fail
                  go_cut [] from 12 (fun wc => Hid (SU w0 g cap (swp dk (iU) (jD)) wc))
                  case first =>
                    obtain ⟨x, hx, cx, fx⟩ := hSD2.out.spot (i := iU) (by omega)
                    obtain ⟨y, hy, cy, fy⟩ := hSD2.out.spot (i := jD) (by omega)
                    have hal : ¬ (iU) = (jD) := by omega
                    have hal2 : ¬ (jD) = (iU) := by omega
                    go_wp2_with fail
                    go_region
                    all_goals
                      go_wp2_with fail
                      go_meet
                      exact Lib.hid ((hSD2.out.drew).swap' (by omega) (by omega) hx hy)
                  case rest =>
                    have HSN := hcut
                    go_wp2
                    rw [HDK.out] at HPN
                    obtain ⟨i0, hi0⟩ : ∃ i0, i0 = iU + 1 := ⟨_, rfl⟩
                    obtain ⟨j0, hj0⟩ : ∃ j0, j0 = jD - 1 := ⟨_, rfl⟩
                    obtain ⟨d0, hd0⟩ : ∃ d0, d0 = swp dk iU jD := ⟨_, rfl⟩
                    have hsd0 : d0.size = d.size := by rw [hd0, size_swp]; exact hsk
                    rw [← hi0, ← hj0, ← hd0] at HPN
                    rw [← hd0] at HSN
                    have zi : ((iU : Nat) : Int) + 1 = (i0 : Int) := by omega
                    have zj : ((jD : Nat) : Int) - 1 = (j0 : Int) := by omega
                    have bi0 : a < i0 ∧ i0 ≤ j0 + 1 ∧ j0 < bb + 1 := by omega
                    clear hd0
                    go_loopg [10, 11] (j0 + 1 - i0) (fun gh vi vj wr => ∃ (i j : Nat) (dk : Array Nat), vi = .int .i64 (i : Nat) ∧ vj = .int .i64 (j : Nat) ∧ a < i ∧ i ≤ j + 1 ∧ j < bb + 1 ∧ j + 1 - i ≤ gh ∧ dk.size = d.size ∧ Hid (SU w0 g cap dk wr) ∧ Hid (partLoop ltU a i j dk = partLoop ltU a i0 j0 d0))
                    case atStart => exact ⟨i0, j0, d0, by first | rfl | go_num, by first | rfl | go_num, by omega, by omega, by omega, by omega, hsd0, HSN, Lib.hid rfl⟩
                    case round =>
                      obtain ⟨ia, ja, dk, rfl, rfl, hai, hij, hjb, hgh, hsk, hS, heq⟩ := hrel
                      go_wp2
                      go_loopg [10] (ja + 1 - (ia)) (fun ghV vV wrV => ∃ (iV : Nat), vV = .int .i64 (iV : Nat) ∧ ia ≤ iV ∧ iV ≤ ja + 1 ∧ ja + 1 - iV ≤ ghV ∧ Hid (SU w0 g cap dk wrV) ∧ Hid (scanUp (fun x => ltU x dk[a]!) dk (ja) iV = scanUp (fun x => ltU x dk[a]!) dk (ja) (ia)))
                      case atStart => exact ⟨ia, by first | rfl | go_num, by omega, by omega, by omega, hS, Lib.hid rfl⟩
                      case round =>
                        obtain ⟨iV, rfl, hb1V, hb2V, hghV, hSV, hRV⟩ := hrel
                        have hposV : 0 < ja ∨ ¬ (iV ≤ ja) := by omega
                        obtain ⟨cV, hcV⟩ : ∃ c, c = (decide (iV ≤ ja) && ltU dk[iV]! dk[a]!) := ⟨_, rfl⟩
                        have HCV := Lib.hid hcV
                        clear hcV
                        go_upto_region 13 with fail
                        go_cut [112] from 99 to 114 (fun sc wc => sc = .bool cV ∧ Hid (SU w0 g cap dk wc))
                        case first =>
                          by_cases hle : iV ≤ ja
                          · have gle : decide (((iV : Nat) : Int) ≤ ((ja : Nat) : Int)) = true := decide_eq_true (by omega)
                            have gle1 := hle
                            obtain ⟨xa, hxa, cxa, fxa⟩ := hSV.out.spot (i := a) (by omega)
                            obtain ⟨xe, hxe, cxe, fxe⟩ := hSV.out.spot (i := iV) (by omega)
                            go_wp2_with fail
                            go_quiet (first | (go_at_call 45; refine Calls.quiet_of_same (less_any _ _ _)))
                            go_wp2_with fail
                            go_meet
                            exact ⟨by rw [HCV.out, ← hxa.out, ← hxe.out]; simp [hle], Lib.hid (hSV.out.drewN _)⟩
                          · have gle : decide (((iV : Nat) : Int) ≤ ((ja : Nat) : Int)) = false := decide_eq_false (by omega)
                            go_wp2_with fail
                            go_quiet (fail)
                            go_wp2_with fail
                            go_meet
                            exact ⟨by rw [HCV.out]; simp [hle], Lib.hid (hSV.out.drewN _)⟩
                        case rest =>
                          obtain ⟨rfl, hSV2⟩ := hcut
                          cases cV
                          · have HFA := and_false HCV.out
                            have HEV := Lib.hid ((scanUp_end (fun x => ltU x dk[a]!) dk (ja) iV HFA).symm.trans hRV.out)
                            clear HFA
                            go_wp2

                            go_loopg [11] (ja + 1 - (iV)) (fun ghW vW wrW => ∃ (jW : Nat), vW = .int .i64 (jW : Nat) ∧ jW ≤ ja ∧ iV ≤ jW + 1 ∧ jW + 1 - iV ≤ ghW ∧ Hid (SU w0 g cap dk wrW) ∧ Hid (scanDown (fun x => !ltU x dk[a]!) dk (iV) jW = scanDown (fun x => !ltU x dk[a]!) dk (iV) (ja)))
                            case atStart => exact ⟨ja, by first | rfl | go_num, by omega, by omega, by omega, hSV2, Lib.hid rfl⟩
                            case round =>
                              obtain ⟨jW, rfl, hb1W, hb2W, hghW, hSW, hRW⟩ := hrel
                              have hposW : 0 < jW ∨ ¬ (iV ≤ jW) := by omega
                              obtain ⟨cW, hcW⟩ : ∃ c, c = (decide (iV ≤ jW) && !ltU dk[jW]! dk[a]!) := ⟨_, rfl⟩
                              have HCW := Lib.hid hcW
                              clear hcW
                              go_upto_region 15 with fail
                              go_cut [129] from 115 to 131 (fun sc wc => sc = .bool cW ∧ Hid (SU w0 g cap dk wc))
                              case first =>
                                by_cases hle : iV ≤ jW
                                · have gle : decide (((iV : Nat) : Int) ≤ ((jW : Nat) : Int)) = true := decide_eq_true (by omega)
                                  have gle1 := hle
                                  obtain ⟨xa, hxa, cxa, fxa⟩ := hSW.out.spot (i := a) (by omega)
                                  obtain ⟨xe, hxe, cxe, fxe⟩ := hSW.out.spot (i := jW) (by omega)
                                  go_wp2_with fail
                                  go_quiet (first | (go_at_call 45; refine Calls.quiet_of_same (less_any _ _ _)))
                                  go_wp2_with fail
                                  go_meet
                                  exact ⟨by rw [HCW.out, ← hxa.out, ← hxe.out]; simp [hle], Lib.hid (hSW.out.drewN _)⟩
                                · have gle : decide (((iV : Nat) : Int) ≤ ((jW : Nat) : Int)) = false := decide_eq_false (by omega)
                                  go_wp2_with fail
                                  go_quiet (fail)
                                  go_wp2_with fail
                                  go_meet
                                  exact ⟨by rw [HCW.out]; simp [hle], Lib.hid (hSW.out.drewN _)⟩
                              case rest =>
                                obtain ⟨rfl, hSW2⟩ := hcut
                                cases cW
                                · have HFA := and_false HCW.out
                                  have HEW := Lib.hid ((scanDown_end (fun x => !ltU x dk[a]!) dk (iV) jW HFA).symm.trans hRW.out)
                                  clear HFA
                                  by_cases hgt : jW < iV
                                  · have HR := Lib.hid ((loop_far a ia ja dk (i2 := iV) (j2 := jW) HEV.out HEW.out hgt).symm.trans heq.out)
                                    go_wp2
                                    go_upto_region 21 with fail
                                    go_cut [] from 12 (fun wc => Hid (SU w0 g cap (swp dk (jW) (a)) wc))
                                    case first =>
                                      obtain ⟨x, hx, cx, fx⟩ := hSW2.out.spot (i := jW) (by omega)
                                      obtain ⟨y, hy, cy, fy⟩ := hSW2.out.spot (i := a) (by omega)
                                      by_cases hal : (jW) = (a)
                                      · have hxy : x = y := by rw [hx.out, hy.out, hal]
                                        subst hxy
                                        rw [hal] at hx cx fx
                                        have HAL := Lib.hid hal
                                        have hali : ((jW : Nat) : Int) = ((a : Nat) : Int) := by rw [hal]
                                        clear hal
                                        go_wp2_with fail
                                        go_region
                                        all_goals
                                          go_wp2_with fail
                                          go_meet
                                          refine Lib.hid ?_
                                          have hh := (hSW2.out.drew).swap' (i := a) (j := a) (by omega) (by omega) hx hx
                                          have he := HAL.out
                                          first | exact hh | (rw [he]; exact hh) | (simp only [he]; exact hh) | (subst he; exact hh)
                                      · have hal2 : ¬ (a) = (jW) := fun e => hal e.symm
                                        go_wp2_with fail
                                        go_region
                                        all_goals
                                          go_wp2_with fail
                                          go_meet
                                          exact Lib.hid ((hSW2.out.drew).swap' (by omega) (by omega) hx hy)
                                    case rest =>
                                      have HSN := hcut
                                      go_wp2
                                      go_ret2
                                      rw [HPN.out, ← HR.out]
                                      exact ⟨rfl, HSN.out⟩
                                  · have hlt : iV < jW := scans_ne (fun x => ltU x dk[a]!) (fun x => !ltU x dk[a]!) (fun x => rfl) ia ja dk (by omega) HEV.out HEW.out (by omega)
                                    have HR := Lib.hid ((loop_near a ia ja dk (i2 := iV) (j2 := jW) HEV.out HEW.out (by omega)).symm.trans heq.out)
                                    go_wp2
                                    go_upto_region 18 with fail
                                    go_cut [] from 99 to 152 (fun wc => Hid (SU w0 g cap (swp dk (iV) (jW)) wc))
                                    case first =>
                                      obtain ⟨x, hx, cx, fx⟩ := hSW2.out.spot (i := iV) (by omega)
                                      obtain ⟨y, hy, cy, fy⟩ := hSW2.out.spot (i := jW) (by omega)
                                      have hal : ¬ (iV) = (jW) := by omega
                                      have hal2 : ¬ (jW) = (iV) := by omega
                                      go_wp2_with fail
                                      go_region
                                      all_goals
                                        go_wp2_with fail
                                        go_meet
                                        exact Lib.hid ((hSW2.out.drew).swap' (by omega) (by omega) hx hy)
                                    case rest =>
                                      have HSN := hcut
                                      go_wp2
                                      go_roundg (jW - 1 + 1 - (iV + 1))
                                      case rel => exact ⟨iV + 1, jW - 1, swp dk iV jW, by go_num, by go_num, by omega, by omega, by omega, by omega, by rw [size_swp]; exact hsk, HSN, HR⟩
                                      case measure => omega
                                · have HTR := and_true HCW.out
                                  have hleW := HTR.1
                                  have HEW := Lib.hid ((scanDown_go (fun x => !ltU x dk[a]!) dk (iV) jW HTR.1 (by omega) HTR.2).symm.trans hRW.out)
                                  clear HTR
                                  go_wp2
                                  go_roundg (jW + 1 - iV - 1)
                                  case rel => exact ⟨jW - 1, by go_num, by omega, by omega, by omega, hSW2, HEW⟩
                                  case measure => omega
                          · have HTR := and_true HCV.out
                            have hleV := HTR.1
                            have HEV := Lib.hid ((scanUp_go (fun x => ltU x dk[a]!) dk (ja) iV HTR.1 HTR.2).symm.trans hRV.out)
                            clear HTR
                            go_wp2
                            go_roundg (ja + 1 - iV - 1)
                            case rel => exact ⟨iV + 1, by go_num, by omega, by omega, by omega, hSV2, HEV⟩
                            case measure => omega
              · have HTR := and_true HCD.out
                have hleD := HTR.1
                have HED := Lib.hid ((scanDown_go (fun x => !ltU x dk[a]!) dk (iU) jD HTR.1 (by omega) HTR.2).symm.trans hRD.out)
                clear HTR
                go_wp2
                go_roundg (jD + 1 - iU - 1)
                case rel => exact ⟨jD - 1, by go_num, by omega, by omega, by omega, hSD2, HED⟩
                case measure => omega
        · have HTR := and_true HCU.out
          have hleU := HTR.1
          have HEU := Lib.hid ((scanUp_go (fun x => ltU x dk[a]!) dk (bb) iU HTR.1 HTR.2).symm.trans hRU.out)
          clear HTR
          go_wp2
          go_roundg (bb + 1 - iU - 1)
          case rel => exact ⟨iU + 1, by go_num, by omega, by omega, by omega, hSU2, HEU⟩
          case measure => omega
end
end Go.Proofs.Ytfdpcjdghmdkkaa.Hp
