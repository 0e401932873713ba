/- partitionEqualOrdered, partitionOrdered over words. -/
import Derived.Test.YtfdpcjdghmdkkaaS5
import Derived.Sort.WalkC
import Derived.Deep.Cut
import Derived.Deep.CutRange
set_option linter.unusedSimpArgs false
set_option linter.unusedVariables false
namespace Go.Proofs.Ytfdpcjdghmdkkaa.Hp
open Go.RowKit Go.Sort
theorem and_true {p : Prop} [Decidable p] {q : Bool} (h : true = (decide p && q)) : p ∧ q = true := by
  by_cases hp : p
  · simp [hp] at h; exact ⟨hp, h⟩
  · simp [hp] at h
theorem and_false {p : Prop} [Decidable p] {q : Bool} (h : false = (decide p && q)) : ¬ p ∨ q = false := by
  by_cases hp : p
  · simp [hp] at h; exact .inr h
  · exact .inl hp
theorem scans_ne (p q : Nat → Bool) (hq : ∀ x, q x = !p x) (i j : Nat) (dk : Array Nat) (h0 : 0 < i) {i2 j2 : Nat} (hi2 : i2 = scanUp p dk j i) (hj2 : j2 = scanDown q dk i2 j) (h : i2 ≤ j2) : i2 < j2 := by
  subst hi2; subst hj2
  obtain ⟨u1, _, _, u4⟩ := scanUp_spec p dk j _ i rfl
  obtain ⟨v1, _, _, v4⟩ := scanDown_spec q dk (scanUp p dk j i) j
  rcases Nat.lt_or_ge (scanUp p dk j i) (scanDown q dk (scanUp p dk j i) j) with h' | h'
  · exact h'
  · have e : scanDown q dk (scanUp p dk j i) j = scanUp p dk j i := by omega
    have f1 := u4 (by omega)
    have f2 := v4 h (by omega)
    rw [e, hq, f1] at f2
    cases f2
section
variable {w0 w : World} {g cap : Nat} {d : Array Nat}
set_option maxRecDepth 100000 in
set_option maxHeartbeats 6400000 in
theorem partEq_any {a b pivot : Nat} (h : SU w0 g cap d w) (hap : a ≤ pivot) (hpb : pivot < b) (hb : b ≤ d.size) (hsz : d.size < 1152921504606846976) :
    Calls Try.prog 46 #[.slice (some ⟨g, 0, none⟩) d.size cap, .int .i64 a, .int .i64 b, .int .i64 pivot] w fun e w' =>
      e = .returned (.int .i64 ((partitionEqual ltU d a b pivot).1 : Nat)) ∧ SU w0 g cap (partitionEqual ltU d a b pivot).2 w' := by
  have H := Lib.hid h
  clear h
  go_enter Try.func46, Try.ntmps46
  go_upto_region 1 with fail
  go_cut [] from 11 (fun wc => Hid (SU w0 g cap (swp d (a) (pivot)) wc))
  case first =>
    obtain ⟨x, hx, cx, fx⟩ := H.out.spot (i := a) (by omega)
    obtain ⟨y, hy, cy, fy⟩ := H.out.spot (i := pivot) (by omega)
    by_cases hal : (a) = (pivot)
    · have hxy : x = y := by rw [hx.out, hy.out, hal]
      subst hxy
      rw [hal] at hx cx fx
      have HAL := Lib.hid hal
      have hali : ((a : Nat) : Int) = ((pivot : Nat) : Int) := by rw [hal]
      clear hal
      go_wp2_with fail
      go_region
      all_goals
        go_wp2_with fail
        go_meet
        refine Lib.hid ?_
        have hh := (H.out.drew).swap' (i := pivot) (j := pivot) (by omega) (by omega) hx hx
        have he := HAL.out
        first | exact hh | (rw [he]; exact hh) | (simp only [he]; exact hh) | (subst he; exact hh)
    · have hal2 : ¬ (pivot) = (a) := fun e => hal e.symm
      go_wp2_with fail
      go_region
      all_goals
        go_wp2_with fail
        go_meet
        exact Lib.hid ((H.out.drew).swap' (by omega) (by omega) hx hy)
  case rest =>
    have HSN := hcut
    go_wp2
    go_loopg [9, 10] (b - 1 - a) (fun gh vi vj wr => ∃ (i j : Nat) (dk : Array Nat), vi = .int .i64 (i : Nat) ∧ vj = .int .i64 (j : Nat) ∧ a < i ∧ i ≤ j + 1 ∧ j < b ∧ j + 1 - i ≤ gh ∧ dk.size = d.size ∧ Hid (SU w0 g cap dk wr) ∧ Hid (partEqLoop ltU a i j dk = partEqLoop ltU a (a + 1) (b - 1) (swp d a pivot)))
    case atStart => exact ⟨a + 1, b - 1, swp d a pivot, by go_num, by go_num, by omega, by omega, by omega, by omega, size_swp _ _ _, HSN, Lib.hid rfl⟩
    case round =>
      obtain ⟨i, j, dk, rfl, rfl, hai, hij, hjb, hgh, hsk, hS, heq⟩ := hrel
      go_wp2
      go_loopg [9] (j + 1 - (i)) (fun ghU vU wrU => ∃ (iU : Nat), vU = .int .i64 (iU : Nat) ∧ i ≤ iU ∧ iU ≤ j + 1 ∧ j + 1 - iU ≤ ghU ∧ Hid (SU w0 g cap dk wrU) ∧ Hid (scanUp (fun x => !ltU dk[a]! x) dk (j) iU = scanUp (fun x => !ltU dk[a]! x) dk (j) (i)))
      case atStart => exact ⟨i, by first | rfl | go_num, by omega, by omega, by omega, hS, Lib.hid rfl⟩
      case round =>
        obtain ⟨iU, rfl, hb1U, hb2U, hghU, hSU, hRU⟩ := hrel
        have hposU : 0 < j ∨ ¬ (iU ≤ j) := by omega
        obtain ⟨cU, hcU⟩ : ∃ c, c = (decide (iU ≤ j) && !ltU dk[a]! dk[iU]!) := ⟨_, rfl⟩
        have HCU := Lib.hid hcU
        clear hcU
        go_upto_region 3 with fail
        go_cut [43] from 29 to 45 (fun sc wc => sc = .bool cU ∧ Hid (SU w0 g cap dk wc))
        case first =>
          by_cases hle : iU ≤ j
          · have gle : decide (((iU : Nat) : Int) ≤ ((j : Nat) : Int)) = true := decide_eq_true (by omega)
            have gle1 := hle
            obtain ⟨xa, hxa, cxa, fxa⟩ := hSU.out.spot (i := a) (by omega)
            obtain ⟨xe, hxe, cxe, fxe⟩ := hSU.out.spot (i := iU) (by omega)
            go_wp2_with fail
            go_quiet (first | (go_at_call 45; refine Calls.quiet_of_same (less_any _ _ _)))
            go_wp2_with fail
            go_meet
            exact ⟨by rw [HCU.out, ← hxa.out, ← hxe.out]; simp [hle], Lib.hid (hSU.out.drewN _)⟩
          · have gle : decide (((iU : Nat) : Int) ≤ ((j : Nat) : Int)) = false := decide_eq_false (by omega)
            go_wp2_with fail
            go_quiet (fail)
            go_wp2_with fail
            go_meet
            exact ⟨by rw [HCU.out]; simp [hle], Lib.hid (hSU.out.drewN _)⟩
        case rest =>
          obtain ⟨rfl, hSU2⟩ := hcut
          cases cU
          · have HFA := and_false HCU.out
            have HEU := Lib.hid ((scanUp_end (fun x => !ltU dk[a]! x) dk (j) iU HFA).symm.trans hRU.out)
            clear HFA
            go_wp2

            go_loopg [10] (j + 1 - (iU)) (fun ghD vD wrD => ∃ (jD : Nat), vD = .int .i64 (jD : Nat) ∧ jD ≤ j ∧ iU ≤ jD + 1 ∧ jD + 1 - iU ≤ ghD ∧ Hid (SU w0 g cap dk wrD) ∧ Hid (scanDown (fun x => ltU dk[a]! x) dk (iU) jD = scanDown (fun x => ltU dk[a]! x) dk (iU) (j)))
            case atStart => exact ⟨j, by first | rfl | go_num, by omega, by omega, by omega, hSU2, Lib.hid rfl⟩
            case round =>
              obtain ⟨jD, rfl, hb1D, hb2D, hghD, hSD, hRD⟩ := hrel
              have hposD : 0 < jD ∨ ¬ (iU ≤ jD) := by omega
              obtain ⟨cD, hcD⟩ : ∃ c, c = (decide (iU ≤ jD) && ltU dk[a]! dk[jD]!) := ⟨_, rfl⟩
              have HCD := Lib.hid hcD
              clear hcD
              go_upto_region 5 with fail
              go_cut [59] from 46 to 61 (fun sc wc => sc = .bool cD ∧ Hid (SU w0 g cap dk wc))
              case first =>
                by_cases hle : iU ≤ jD
                · have gle : decide (((iU : Nat) : Int) ≤ ((jD : Nat) : Int)) = true := decide_eq_true (by omega)
                  have gle1 := hle
                  obtain ⟨xa, hxa, cxa, fxa⟩ := hSD.out.spot (i := a) (by omega)
                  obtain ⟨xe, hxe, cxe, fxe⟩ := hSD.out.spot (i := jD) (by omega)
                  go_wp2_with fail
                  go_quiet (first | (go_at_call 45; refine Calls.quiet_of_same (less_any _ _ _)))
                  go_wp2_with fail
                  go_meet
                  exact ⟨by rw [HCD.out, ← hxa.out, ← hxe.out]; simp [hle], Lib.hid (hSD.out.drewN _)⟩
                · have gle : decide (((iU : Nat) : Int) ≤ ((jD : Nat) : Int)) = false := decide_eq_false (by omega)
                  go_wp2_with fail
                  go_quiet (fail)
                  go_wp2_with fail
                  go_meet
                  exact ⟨by rw [HCD.out]; simp [hle], Lib.hid (hSD.out.drewN _)⟩
              case rest =>
                obtain ⟨rfl, hSD2⟩ := hcut
                cases cD
                · have HFA := and_false HCD.out
                  have HED := Lib.hid ((scanDown_end (fun x => ltU dk[a]! x) dk (iU) jD HFA).symm.trans hRD.out)
                  clear HFA
                  by_cases hgt : jD < iU
                  · have HR := Lib.hid (show partEqLoop ltU a i j dk = (iU, dk) from partEq_break ltU a i j dk (i2 := iU) (j2 := jD) HEU.out HED.out hgt)
                    go_wp2
                    go_ret
                    unfold partitionEqual
                    rw [← heq.out, HR.out]
                    exact ⟨rfl, hSD2.out⟩
                  · have hlt : iU < jD := scans_ne (fun x => !ltU dk[a]! x) (fun x => ltU dk[a]! x) (fun x => by simp) i j dk (by omega) HEU.out HED.out (by omega)
                    have HR := Lib.hid ((partEq_go ltU a i j dk (i2 := iU) (j2 := jD) HEU.out HED.out (by omega)).symm.trans heq.out)
                    go_upto_region 8 with fail
                    go_cut [] from 29 to 82 (fun wc => Hid (SU w0 g cap (swp dk (iU) (jD)) wc))
                    case first =>
                      obtain ⟨x, hx, cx, fx⟩ := hSD2.out.spot (i := iU) (by omega)
                      obtain ⟨y, hy, cy, fy⟩ := hSD2.out.spot (i := jD) (by omega)
                      have hal : ¬ (iU) = (jD) := by omega
                      have hal2 : ¬ (jD) = (iU) := by omega
                      go_wp2_with fail
                      go_region
                      all_goals
                        go_wp2_with fail
                        go_meet
                        exact Lib.hid ((hSD2.out.drew).swap' (by omega) (by omega) hx hy)
                    case rest =>
                      have HSN := hcut
                      go_wp2
                      go_roundg (jD - 1 + 1 - (iU + 1))
                      case rel => exact ⟨iU + 1, jD - 1, swp dk iU jD, by go_num, by go_num, by omega, by omega, by omega, by omega, by rw [size_swp]; exact hsk, HSN, HR⟩
                      case measure => omega
                · have HTR := and_true HCD.out
                  have hleD := HTR.1
                  have HED := Lib.hid ((scanDown_go (fun x => ltU dk[a]! x) dk (iU) jD HTR.1 (by omega) HTR.2).symm.trans hRD.out)
                  clear HTR
                  go_wp2
                  go_roundg (jD + 1 - iU - 1)
                  case rel => exact ⟨jD - 1, by go_num, by omega, by omega, by omega, hSD2, HED⟩
                  case measure => omega
          · have HTR := and_true HCU.out
            have hleU := HTR.1
            have HEU := Lib.hid ((scanUp_go (fun x => !ltU dk[a]! x) dk (j) iU HTR.1 HTR.2).symm.trans hRU.out)
            clear HTR
            go_wp2
            go_roundg (j + 1 - iU - 1)
            case rel => exact ⟨iU + 1, by go_num, by omega, by omega, by omega, hSU2, HEU⟩
            case measure => omega
end
end Go.Proofs.Ytfdpcjdghmdkkaa.Hp
