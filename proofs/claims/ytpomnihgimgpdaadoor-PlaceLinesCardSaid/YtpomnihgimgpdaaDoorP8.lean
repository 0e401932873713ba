/- The walk of the reference's In. -/
import Derived.Test.YtpomnihgimgpdaaDoorP7
import Derived.StillTailTactics
set_option linter.unusedSimpArgs false
set_option linter.unusedVariables false
namespace Go.Proofs.YtpomnihgimgpdaaDoor.Pl
open Go.RowKit
open Fl

def inInt (o : Option Nat) : Int := match o with
  | some k => k
  | none => -1
theorem behN_one (a : Nat × Nat) (c : UInt8) (h1 : 1 ≤ a.1) (h2 : 1 ≤ a.2) (h3 : a.1 ≤ 1073741823) (h4 : a.2 ≤ 1073741823) : behN (ofN a.1 a.2) [c] = stepN a c := by
  rw [ofN_in (isR_mk (by omega) (by omega) (by omega) (by omega))]
  show behN (a.1, a.2) [c] = _
  have ha : isN (a.1, a.2) = true := by unfold isN inN; simp; omega
  rw [behN_cons ha]
  have hs : isN (stepN (a.1, a.2) c) = true := by
    unfold stepN isN inN
    split <;> simp <;> omega
  simp [behN, hs]
theorem stepN_ge (a : Nat × Nat) (c : UInt8) (h1 : 1 ≤ a.1) (h2 : 1 ≤ a.2) : 1 ≤ (stepN a c).1 ∧ 1 ≤ (stepN a c).2 := by unfold stepN; split <;> simp <;> omega
theorem one_byte (s : ByteArray) (k : Nat) (h : k < s.size) : (s.extract k (k + 1)).data.toList = [s[k]] := by
  have hl : k < s.data.toList.length := by simpa using h
  rw [ByteArray.data_extract, Array.toList_extract, List.extract_eq_take_drop, show k + 1 - k = 1 by omega, List.drop_eq_getElem_cons hl]
  rfl
theorem below_drew {w wr : World} (h : Below w.heap.size w wr) : Below w.heap.size w wr.drew := h.drew
theorem Two.drew {w : World} {b : Nat} {l c : Int} (h : Two w b l c) : Two w.drew b l c := h

set_option maxHeartbeats 3200000 in
theorem rIn_any (s : ByteArray) (q : Nat × Nat) (w : World) (hs : s.size ≤ 1073741800) : Calls Tryd.prog 23 #[.string s, R q.1 q.2] w fun e w' => e = .returned (.int .i64 (inInt (idx q (1, 1) s.data.toList 0))) ∧ Below w.heap.size w w' := by
  unfold R
  go_enter Tryd.func23, Tryd.ntmps23
  go_wp2
  go_loopw [6] (fun i wr => ∃ (a : Nat × Nat) (k : Nat), k ≤ s.size + 1 ∧ i = .int .i64 k ∧ Two wr w.heap.size q.1 q.2 ∧ Two wr (w.heap.size + 1) a.1 a.2 ∧ w.heap.size + 1 < wr.heap.size ∧ Below w.heap.size w wr ∧ 1 ≤ a.1 ∧ 1 ≤ a.2 ∧ a.1 ≤ k + 1 ∧ a.2 ≤ k + 1 ∧ Hid (k ≤ s.size → idx q (1, 1) s.data.toList 0 = idx q a (s.data.toList.drop k) k) ∧ Hid (k = s.size + 1 → idx q (1, 1) s.data.toList 0 = none)) (fun i _ => s.size + 2 - (intOf i).toNat)
  case atStart =>
    refine ⟨(1, 1), 0, by omega, rfl, ?_, ?_, ?_, below_alloc (below_alloc (Below.refl _ _) _) _, by simp, by simp, by simp, by simp, Lib.hid (fun _ => rfl), Lib.hid (fun h => by omega)⟩
    · refine ⟨?_, ?_, ?_, ?_⟩ <;> simp [go_sem]
    · refine ⟨?_, ?_, ?_, ?_⟩ <;> simp [go_sem]
    · simp
  case round =>
    obtain ⟨a, k, hk, rfl, ta, tb, hsz, hb, c1, c2, d1, d2, HB0, HZ⟩ := hrel
    by_cases hend : k = s.size + 1
    · have HR := Lib.hid (HZ.out hend)
      have hcmp : ¬ (k : Int) ≤ (s.size : Int) := by omega
      clear HB0 HZ ta tb hend
      go_wp2
      go_ret
      exact ⟨ret_int (by rw [HR.out]; rfl), hb⟩
    have hk' : k ≤ s.size := by omega
    have HB := Lib.hid (HB0.out hk')
    clear HB0 HZ hend
    have TA := Lib.hid ta
    have TB := Lib.hid tb
    obtain ⟨a0, a1, a2, a3⟩ := ta
    obtain ⟨b0, b1, b2, b3⟩ := tb
    by_cases e1 : (a.1 : Int) = (q.1 : Int)
    · by_cases e2 : (a.2 : Int) = (q.2 : Int)
      · have haq : a = q := Prod.ext (by omega) (by omega)
        have HR := Lib.hid (show idx q (1, 1) s.data.toList 0 = some k from by rw [HB.out, haq, idx_here])
        clear HB haq TA TB
        go_wp2
        go_ret
        exact ⟨ret_int (by rw [HR.out]; rfl), hb⟩
      · have haq : a ≠ q := fun e => by rw [e] at e2; exact e2 rfl
        by_cases hlt : k < s.size
        · have HD := Lib.hid (drop_cons s k hlt)
          have HN := Lib.hid (show idx q (1, 1) s.data.toList 0 = idx q (stepN a s[k]) (s.data.toList.drop (k + 1)) (k + 1) from by rw [HB.out, HD.out, idx_next haq])
          have bd := stepN_le a s[k] k d1 d2
          have bg := stepN_ge a s[k] c1 c2
          have hB := fun w' => rBehind_any a.1 a.2 (s.extract k (k + 1)) w' (by simp; omega)
          rw [one_byte s k hlt, behN_one a s[k] c1 c2 (by omega) (by omega)] at hB
          unfold R at hB
          have HBe := Lib.hid hB
          clear HB HD hB haq
          generalize stepN a s[k] = a' at *
          have e1' := eq_true e1
          have e2' := eq_false e2
          clear e1 e2
          have hw : IntKind.i64.wrap ((k : Int) + 1) = (k : Int) + 1 := IntWalk.i64_in _ (by omega)
          have hsl := fun w => run_slice_string (P := Tryd.prog) w 9 s .i64 .i64 (k : Int) ((k : Int) + 1) Tryd.underlying9 (by omega) (by omega) (by omega)
          have hw2 : ((k : Int) + 1).toNat = k + 1 := by omega
          simp only [Int.toNat_natCast, hw2] at hsl
          go_wp2
          go_still_tail 6, (by kernel_rfl)
          change wpList _ _ _ _ _ wr.drew
          have TA1 := Lib.hid TA.out.drew
          have TB1 := Lib.hid TB.out.drew
          have hb1 := below_drew hb
          have hsz1 : w.heap.size + 1 < wr.drew.heap.size := hsz
          clear a0 a1 a2 a3 b0 b1 b2 b3 TA TB hsl hw hw2
          generalize wr.drew = W at *
          go_wp2_with fail
          ((with_reducible refine (HBe.out _).mono ?_); rintro e w1 ⟨rfl, g1⟩)
          have ta1 := TA1.out.below g1 (by omega)
          have tb1 := TB1.out.below g1 (by omega)
          have TB2 := Lib.hid ((tb1.set0 a'.1).set1 a'.2)
          have TA2 := Lib.hid ((ta1.set_far (p := ⟨w.heap.size + 1, 0, none⟩) (by simp) (.int .i64 a'.1)).set_far (p := ⟨w.heap.size + 1, 1, none⟩) (by simp) (.int .i64 a'.2))
          obtain ⟨b0, b1, b2, b3⟩ := tb1
          have hsz2 := g1.size
          replace g1 := hb1.trans (g1.mono hb1.size)
          clear ta1
          go_wp2
          go_roundw
          case rel => exact ⟨a', k + 1, by omega, by go_num, TA2.out, TB2.out, by simp [World.setCell]; omega, (g1.setCell (by simp) _).setCell (by simp) _, bg.1, bg.2, by omega, by omega, Lib.hid (fun _ => HN.out), Lib.hid (fun h => by omega)⟩
          case measure => simp [intOf]; try omega
        · have hkS : k = s.size := by omega
          subst hkS
          have HR := Lib.hid (show idx q (1, 1) s.data.toList 0 = none from by rw [HB.out, List.drop_of_length_le (by simp), idx_end haq])
          clear HB haq
          have e1' := eq_true e1
          have e2' := eq_false e2
          clear e1 e2
          go_wp2
          go_roundw
          case rel => exact ⟨a, s.size + 1, by omega, by go_num, TA.out, TB.out, hsz, hb, c1, c2, by omega, by omega, Lib.hid (fun h => by omega), Lib.hid (fun _ => HR.out)⟩
          case measure => simp [intOf]; try omega
    · have haq : a ≠ q := fun e => by rw [e] at e1; exact e1 rfl
      by_cases hlt : k < s.size
      · have HD := Lib.hid (drop_cons s k hlt)
        have HN := Lib.hid (show idx q (1, 1) s.data.toList 0 = idx q (stepN a s[k]) (s.data.toList.drop (k + 1)) (k + 1) from by rw [HB.out, HD.out, idx_next haq])
        have bd := stepN_le a s[k] k d1 d2
        have bg := stepN_ge a s[k] c1 c2
        have hB := fun w' => rBehind_any a.1 a.2 (s.extract k (k + 1)) w' (by simp; omega)
        rw [one_byte s k hlt, behN_one a s[k] c1 c2 (by omega) (by omega)] at hB
        unfold R at hB
        have HBe := Lib.hid hB
        clear HB HD hB haq
        generalize stepN a s[k] = a' at *
        have e1' := eq_false e1
        clear e1
        have hw : IntKind.i64.wrap ((k : Int) + 1) = (k : Int) + 1 := IntWalk.i64_in _ (by omega)
        have hsl := fun w => run_slice_string (P := Tryd.prog) w 9 s .i64 .i64 (k : Int) ((k : Int) + 1) Tryd.underlying9 (by omega) (by omega) (by omega)
        have hw2 : ((k : Int) + 1).toNat = k + 1 := by omega
        simp only [Int.toNat_natCast, hw2] at hsl
        go_wp2
        go_still_tail 6, (by kernel_rfl)
        change wpList _ _ _ _ _ wr.drew
        have TA1 := Lib.hid TA.out.drew
        have TB1 := Lib.hid TB.out.drew
        have hb1 := below_drew hb
        have hsz1 : w.heap.size + 1 < wr.drew.heap.size := hsz
        clear a0 a1 a2 a3 b0 b1 b2 b3 TA TB hsl hw hw2
        generalize wr.drew = W at *
        go_wp2_with fail
        ((with_reducible refine (HBe.out _).mono ?_); rintro e w1 ⟨rfl, g1⟩)
        have ta1 := TA1.out.below g1 (by omega)
        have tb1 := TB1.out.below g1 (by omega)
        have TB2 := Lib.hid ((tb1.set0 a'.1).set1 a'.2)
        have TA2 := Lib.hid ((ta1.set_far (p := ⟨w.heap.size + 1, 0, none⟩) (by simp) (.int .i64 a'.1)).set_far (p := ⟨w.heap.size + 1, 1, none⟩) (by simp) (.int .i64 a'.2))
        obtain ⟨b0, b1, b2, b3⟩ := tb1
        have hsz2 := g1.size
        replace g1 := hb1.trans (g1.mono hb1.size)
        clear ta1
        go_wp2
        go_roundw
        case rel => exact ⟨a', k + 1, by omega, by go_num, TA2.out, TB2.out, by simp [World.setCell]; omega, (g1.setCell (by simp) _).setCell (by simp) _, bg.1, bg.2, by omega, by omega, Lib.hid (fun _ => HN.out), Lib.hid (fun h => by omega)⟩
        case measure => simp [intOf]; try omega
      · have hkS : k = s.size := by omega
        subst hkS
        have HR := Lib.hid (show idx q (1, 1) s.data.toList 0 = none from by rw [HB.out, List.drop_of_length_le (by simp), idx_end haq])
        clear HB haq
        have e1' := eq_false e1
        clear e1
        go_wp2
        go_roundw
        case rel => exact ⟨a, s.size + 1, by omega, by go_num, TA.out, TB.out, hsz, hb, c1, c2, by omega, by omega, Lib.hid (fun h => by omega), Lib.hid (fun _ => HR.out)⟩
        case measure => simp [intOf]; try omega

end Go.Proofs.YtpomnihgimgpdaaDoor.Pl
