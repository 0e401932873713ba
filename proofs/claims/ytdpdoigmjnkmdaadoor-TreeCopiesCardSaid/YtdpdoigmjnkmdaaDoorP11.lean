/- The walk of place.Read. -/
import Derived.Test.YtdpdoigmjnkmdaaDoorP10
set_option linter.unusedSimpArgs false
set_option linter.unusedVariables false
namespace Go.Proofs.YtdpdoigmjnkmdaaDoor.Pl
open Go.RowKit
open Fl
open Num

theorem ext_to (s : ByteArray) (k : Nat) : (s.extract 0 k).data.toList = s.data.toList.take k := by
  rw [ByteArray.data_extract, Array.toList_extract, List.extract_eq_take_drop]; simp
theorem ext_from (s : ByteArray) (k : Nat) : (s.extract k s.size).data.toList = s.data.toList.drop k := by
  rw [ByteArray.data_extract, Array.toList_extract, List.extract_eq_take_drop]
  apply List.take_of_length_le
  simp
theorem ext_to_size (s : ByteArray) (k : Nat) : (s.extract 0 k).size ≤ s.size := by
  rw [ByteArray.size_extract]; omega
theorem ext_from_size (s : ByteArray) (k : Nat) : (s.extract k s.size).size ≤ s.size := by
  rw [ByteArray.size_extract]; omega
theorem parted (s : ByteArray) (k : Nat) (h : k < s.size) (hc : s[k].toNat = 58) : s.data.toList = s.data.toList.take k ++ 58 :: s.data.toList.drop (k + 1) := by
  have h1 := drop_cons s k h
  have h2 : s[k] = 58 := by
    apply UInt8.toNat_inj.1
    rw [hc]; rfl
  rw [← h2, ← h1, List.take_append_drop]
theorem ofN_le (l c : Int) : (ofN l c).1 < 4294967296 ∧ (ofN l c).2 < 4294967296 := by
  unfold ofN; split <;> simp <;> omega
theorem ofN_nat {p : Nat × Nat} (h : isN p = true) : ofN p.1 p.2 = p := by
  have bd := isN_bd h
  rw [ofN_in (isR_mk (by omega) (by omega) (by omega) (by omega))]; rfl
/-- What Read answers. -/
def readTup (p : Nat × Nat) : Value := .tuple #[C p, .bool (isN p)]
theorem readTup_no {p : Nat × Nat} (h : p = (0, 0)) : Ending.returned (.tuple #[.complex .f64 0 0, .bool false]) = .returned (readTup p) := by
  rw [h]; unfold readTup; rw [C_zero]; rfl

set_option maxHeartbeats 6400000 in
theorem Read_any (s : ByteArray) (w : World) (hs : s.size ≤ 1073741800) (ht : Tabs w) : Calls Tryd.prog 43 #[.string s] w fun e w' => e = .returned (readTup (readN s.data.toList)) ∧ Below w.heap.size w w' := by
  have HT := Lib.hid ht
  clear ht
  go_enter Tryd.func43, Tryd.ntmps43
  go_wp2
  go_loop [4] (fun i => ∃ k : Nat, k ≤ s.size ∧ i = .int .i64 k ∧ Hid (∀ c ∈ s.data.toList.take k, c.toNat ≠ 58) ∧ Hid (readN s.data.toList = readFrom (s.data.toList.take k) (s.data.toList.drop k))) (fun i => s.size - (intOf i).toNat)
  case atStart => exact ⟨0, Nat.zero_le _, rfl, Lib.hid (fun c hc => by simp at hc), Lib.hid rfl⟩
  case round =>
    obtain ⟨k, hk, rfl, HC, HB⟩ := hrel
    by_cases hlt : k < s.size
    · by_cases hc : s[k].toNat = 58
      · have hcb : ((s[k].toNat : Int) != 58) = false := by simp [hc]
        have hsp := parted s k hlt hc
        have hR := show readN s.data.toList = readP (s.data.toList.take k) (s.data.toList.drop (k + 1)) from by rw [HB.out, drop_cons s k hlt, readFrom_here _ hc]
        have ha := ext_to s k
        have hb := ext_from s (k + 1)
        have sa := ext_to_size s k
        have sb := ext_from_size s (k + 1)
        have hsa := fun w => run_slice_string_h (P := Tryd.prog) w 9 s Tryd.underlying9 .i64 (k : Int) (by omega) (by omega)
        have hsb := fun w => run_slice_string_l (P := Tryd.prog) w 9 s Tryd.underlying9 .i64 ((k : Int) + 1) (by omega) (by omega)
        have hn2 : ((k : Int) + 1).toNat = k + 1 := by omega
        have hw : IntKind.i64.wrap ((k : Int) + 1) = (k : Int) + 1 := IntWalk.i64_in _ (by omega)
        simp only [Int.toNat_natCast, hn2] at hsa hsb
        cases hN : isN (numN (s.data.toList.take k), numN (s.data.toList.drop (k + 1)))
        · have HR := Lib.hid (hR.trans (readP_no hN))
          by_cases g1 : ∃ v, Lib.atoiAll (s.data.toList.take k) = .ok v
          · by_cases g2 : ∃ v, Lib.atoiAll (s.data.toList.drop (k + 1)) = .ok v
            · obtain ⟨v1, h1⟩ := id g1
              obtain ⟨v2, h2⟩ := id g2
              have A1 := Lib.hid (atoi_ok (s.extract 0 k) v1 w (by omega) (by rw [ha]; exact h1))
              have A2 := Lib.hid (fun w' => atoi_ok (s.extract (k + 1) s.size) v2 w' (by omega) (by rw [hb]; exact h2))
              have A3 := Lib.hid (fun w' => Of_any v1 v2 w')
              have bp := ofN_le v1 v2
              have hno := text_not HC.out hN (ofN v1 v2)
              have A4 := Lib.hid (fun w' (h : Tabs w') => Text_any (ofN v1 v2) w' bp.1 bp.2 h.1)
              obtain ⟨T, hT⟩ : ∃ T : ByteArray, T = ⟨(textN (ofN v1 v2)).toArray⟩ := ⟨_, rfl⟩
              have hne : (T.toList == s.toList) = false := by
                rw [beq_eq_false_iff_ne, ByteArray.toList_eq, ByteArray.toList_eq, hT, hsp]
                exact hno
              rw [← hT] at A4
              clear hR ha hb sa sb hsp HC HB hN g1 g2 h1 h2 hno bp hT
              generalize ofN v1 v2 = p at *
              go_wp2_with fail
              ((with_reducible refine A1.out.mono ?_); rintro e w1 ⟨rfl, g1⟩)
              go_wp2_with fail
              ((with_reducible refine (A2.out _).mono ?_); rintro e w2 ⟨rfl, g2⟩)
              replace g2 := g1.trans (g2.mono g1.size)
              go_wp2_with fail
              ((with_reducible refine (A3.out _).mono ?_); rintro e w3 ⟨rfl, rfl⟩)
              go_wp2_with fail
              ((with_reducible refine (A4.out _ (tabs_below HT.out g2)).mono ?_); rintro e w3 ⟨rfl, g3⟩)
              replace g3 := g2.trans (g3.mono g2.size)
              go_wp2
              go_ret2
              exact ⟨readTup_no HR.out, g3⟩
            · obtain ⟨v1, h1⟩ := id g1
              have A1 := Lib.hid (atoi_ok (s.extract 0 k) v1 w (by omega) (by rw [ha]; exact h1))
              have A2 := Lib.hid (fun w' (h : Tabs w') => atoi_bad (s.extract (k + 1) s.size) w' (by omega) (by rw [hb]; exact fun v h => g2 ⟨v, h⟩) h)
              have A3 := Lib.hid (fun l c w' => Of_any l c w')
              clear hR ha hb sa sb hsp HC HB hN g1 g2 h1
              go_wp2_with fail
              ((with_reducible refine A1.out.mono ?_); rintro e w1 ⟨rfl, g1⟩)
              go_wp2_with fail
              ((with_reducible refine (A2.out _ (tabs_below HT.out g1)).mono ?_); rintro e w2 ⟨n2, N2, rfl, g2⟩)
              replace g2 := g1.trans (g2.mono g1.size)
              go_wp2_with fail
              ((with_reducible refine (A3.out _ _ _).mono ?_); rintro e w3 ⟨rfl, rfl⟩)
              go_wp2
              go_ret2
              exact ⟨readTup_no HR.out, g2⟩
          · by_cases g2 : ∃ v, Lib.atoiAll (s.data.toList.drop (k + 1)) = .ok v
            · obtain ⟨v2, h2⟩ := id g2
              have A1 := Lib.hid (atoi_bad (s.extract 0 k) w (by omega) (by rw [ha]; exact fun v h => g1 ⟨v, h⟩) HT.out)
              have A2 := Lib.hid (fun w' => atoi_ok (s.extract (k + 1) s.size) v2 w' (by omega) (by rw [hb]; exact h2))
              have A3 := Lib.hid (fun l c w' => Of_any l c w')
              clear hR ha hb sa sb hsp HC HB hN g1 g2 h2
              go_wp2_with fail
              ((with_reducible refine A1.out.mono ?_); rintro e w1 ⟨n1, N1, rfl, g1⟩)
              go_wp2_with fail
              ((with_reducible refine (A2.out _).mono ?_); rintro e w2 ⟨rfl, g2⟩)
              replace g2 := g1.trans (g2.mono g1.size)
              go_wp2_with fail
              ((with_reducible refine (A3.out _ _ _).mono ?_); rintro e w3 ⟨rfl, rfl⟩)
              go_wp2
              go_ret2
              exact ⟨readTup_no HR.out, g2⟩
            · have A1 := Lib.hid (atoi_bad (s.extract 0 k) w (by omega) (by rw [ha]; exact fun v h => g1 ⟨v, h⟩) HT.out)
              have A2 := Lib.hid (fun w' (h : Tabs w') => atoi_bad (s.extract (k + 1) s.size) w' (by omega) (by rw [hb]; exact fun v h => g2 ⟨v, h⟩) h)
              have A3 := Lib.hid (fun l c w' => Of_any l c w')
              clear hR ha hb sa sb hsp HC HB hN g1 g2
              go_wp2_with fail
              ((with_reducible refine A1.out.mono ?_); rintro e w1 ⟨n1, N1, rfl, g1⟩)
              go_wp2_with fail
              ((with_reducible refine (A2.out _ (tabs_below HT.out g1)).mono ?_); rintro e w2 ⟨n2, N2, rfl, g2⟩)
              replace g2 := g1.trans (g2.mono g1.size)
              go_wp2_with fail
              ((with_reducible refine (A3.out _ _ _).mono ?_); rintro e w3 ⟨rfl, rfl⟩)
              go_wp2
              go_ret2
              exact ⟨readTup_no HR.out, g2⟩
        · obtain ⟨t1, t2, t3⟩ := text_of_parts hN
          have bd := isN_bd hN
          have HR := Lib.hid (hR.trans (readP_ok hN))
          have A1 := Lib.hid (atoi_ok (s.extract 0 k) (numN (s.data.toList.take k)) w (by omega) (by rw [ha]; rw (occs := .pos [1]) [t1]; exact atoi_dec _ bd.1.2))
          have A2 := Lib.hid (fun w' => atoi_ok (s.extract (k + 1) s.size) (numN (s.data.toList.drop (k + 1))) w' (by omega) (by rw [hb]; rw (occs := .pos [1]) [t2]; exact atoi_dec _ bd.2.2))
          have hO := fun w' => Of_any (numN (s.data.toList.take k)) (numN (s.data.toList.drop (k + 1))) w'
          rw [show ofN (numN (s.data.toList.take k) : Nat) (numN (s.data.toList.drop (k + 1)) : Nat) = (numN (s.data.toList.take k), numN (s.data.toList.drop (k + 1))) from ofN_nat hN] at hO
          have A3 := Lib.hid hO
          have A4 := Lib.hid (fun w' (h : Tabs w') => Text_any (numN (s.data.toList.take k), numN (s.data.toList.drop (k + 1))) w' (by have := bd.1.2; show numN _ < _; omega) (by have := bd.2.2; show numN _ < _; omega) h.1)
          have hts : (⟨(textN (numN (s.data.toList.take k), numN (s.data.toList.drop (k + 1)))).toArray⟩ : ByteArray) = s := by
            rw [t3, ← hsp]
          rw [hts] at A4
          clear hR ha hb sa sb hO hts t1 t2 t3 bd hsp HC HB
          generalize numN (s.data.toList.take k) = x at *
          generalize numN (s.data.toList.drop (k + 1)) = y at *
          have HI := Lib.hid hN
          clear hN
          go_wp2_with fail
          ((with_reducible refine A1.out.mono ?_); rintro e w1 ⟨rfl, g1⟩)
          go_wp2_with fail
          ((with_reducible refine (A2.out _).mono ?_); rintro e w2 ⟨rfl, g2⟩)
          replace g2 := g1.trans (g2.mono g1.size)
          go_wp2_with fail
          ((with_reducible refine (A3.out _).mono ?_); rintro e w3 ⟨rfl, rfl⟩)
          go_wp2_with fail
          ((with_reducible refine (A4.out _ (tabs_below HT.out g2)).mono ?_); rintro e w3 ⟨rfl, g3⟩)
          replace g3 := g2.trans (g3.mono g2.size)
          go_wp2
          go_ret2
          exact ⟨by rw [HR.out]; unfold readTup; rw [HI.out]; rfl, g3⟩
      · have hcb : ((s[k].toNat : Int) != 58) = true := by simp; omega
        have HC' := Lib.hid (show ∀ c ∈ s.data.toList.take (k + 1), c.toNat ≠ 58 from by
          rw [take_snoc s k hlt]
          intro c h
          rcases List.mem_append.1 h with h | h
          · exact HC.out c h
          · rw [List.mem_singleton] at h; subst h; exact hc)
        have HB' := Lib.hid (show readN s.data.toList = readFrom (s.data.toList.take (k + 1)) (s.data.toList.drop (k + 1)) from by rw [HB.out, drop_cons s k hlt, readFrom_next _ hc, take_snoc s k hlt])
        clear HC HB hc
        go_wp2
        go_round
        case rel => exact ⟨k + 1, by omega, by go_num, HC', HB'⟩
        case measure => simp [intOf]; omega
    · have hkS : k = s.size := by omega
      subst hkS
      have HR := Lib.hid (show readN s.data.toList = (0, 0) from by rw [HB.out, List.drop_of_length_le (by simp)]; rfl)
      clear HC HB
      go_wp2
      go_ret2
      exact ⟨readTup_no HR.out, Below.refl _ _⟩

end Go.Proofs.YtdpdoigmjnkmdaaDoor.Pl
