/- The walk of the reference's Scan. -/
import Derived.Test.YtkiedbanobjmlaaDoorR10
set_option linter.unusedSimpArgs false
set_option linter.unusedVariables false
namespace Go.Proofs.YtkiedbanobjmlaaDoor.Lx
open Go.RowKit
open Pl Fl
attribute [local go_sem] run_store_complexL
attribute [local go_sem ↓] Go.wp_at_zero Go.wp_at_succ

set_option maxRecDepth 100000 in
set_option maxHeartbeats 6400000 in
theorem rScan_any (s : ByteArray) (hs : s.size ≤ 9223372036854775800) (w : World) :
    Calls Tryd.prog 11 #[.string s] w fun e w' => scanEnd w s.data.toList (scanL s.data.toList) e w' := by
  have hal : w.heap.size < (w.alloc (.cells #[.int .i64 1, .int .i64 1] 50)).heap.size := by rw [World.size_alloc]; exact Nat.lt_succ_self _
  have hab : Below w.heap.size w (w.alloc (.cells #[.int .i64 1, .int .i64 1] 50)) := (Below.refl w.heap.size w).alloc (Nat.le_refl _) _
  by_cases hbig : 16384 < s.size
  · have HS := Lib.hid (show scanL s.data.toList = .error (0, 5) by unfold scanL; rw [if_pos (by simpa using hbig)])
    have hbig' : (16384 : Int) < (s.size : Int) := by omega
    have HAB := Lib.hid hab
    have HAL := Lib.hid hal
    clear hab hal
    go_enter Tryd.func11, Tryd.ntmps11
    go_wp2_with fail
    ((with_reducible refine (pos_one _).mono ?_); rintro e w1 ⟨rfl, hb⟩)
    have hb1 : Below w.heap.size w w1 := HAB.out.trans (hb.mono (Nat.le_of_lt HAL.out))
    go_wp2
    go_ret3
    rw [HS.out]
    exact ⟨rfl, hb1⟩
  have hbig' : ¬ (16384 : Int) < (s.size : Int) := by omega
  obtain ⟨src, hsrc⟩ : ∃ src, src = s.data.toList := ⟨_, rfl⟩
  have hsl0 : src.length = s.size := by rw [hsrc]; simp
  have HS := Lib.hid (show scanL src = scanAt src 0 by rw [scanL_eq, if_neg (by omega)])
  have hs16 : s.size ≤ 16384 := by omega
  have HAT := Lib.hid (at_is src (by omega))
  have HSRC := Lib.hid hsrc
  have HAB := Lib.hid hab
  have HBK0 := Lib.hid (show Blk (w.alloc (.cells #[.int .i64 1, .int .i64 1] 50)) w.heap.size 50 #[.int .i64 (at_ src 0).1, .int .i64 (at_ src 0).2] from Blk.new _ _ _)
  rw [← hsrc]
  clear hab hsrc
  go_enter Tryd.func11, Tryd.ntmps11
  go_wp2_with fail
  clear hbig hbig'
  go_loopw [0, 6] (fun sv av wr => ∃ (i : Nat) (acc : List Tok) (s' : ByteArray) (lv : Value), i + s'.size = s.size ∧ sv = .string s' ∧ lv = av ∧ w.heap.size < wr.heap.size ∧ acc.length ≤ i ∧ Hid (s'.data.toList = src.drop i) ∧ Hid (wr.ownsRow (w.heap.size + 1) 35 5 lv acc.length (flat src acc)) ∧ Hid (Blk wr w.heap.size 50 #[.int .i64 (at_ src i).1, .int .i64 (at_ src i).2]) ∧ Hid (Below w.heap.size w wr) ∧ Hid (scanL src = (scanAt src i).map (acc ++ ·))) (fun sv _ _ => strLen sv)
  case atStart =>
    refine ⟨0, [], s, _, by omega, rfl, rfl, hal, Nat.le_refl _, Lib.hid (by rw [HSRC.out]; rfl), Lib.hid ⟨rfl, .inl ⟨rfl, rfl⟩⟩, HBK0, HAB, Lib.hid ?_⟩
    rw [HS.out]
    cases scanAt src 0 <;> rfl
  case round =>
    obtain ⟨i, acc, s', lv, hi, rfl, rfl, hlt0, hacc, HSR, HO, HBK, HBL, HSC⟩ := hrel
    clear hal HBK0 HAB
    rcases Nat.eq_zero_or_pos s'.size with h0 | h0
    · have hii : src.length ≤ i := by omega
      have hre : s'.toList.isEmpty = true := by rw [ByteArray.toList_eq, List.isEmpty_iff, empty_iff]; exact h0
      have hre2 : s'.toList = [] := by rw [ByteArray.toList_eq, empty_iff]; exact h0
      obtain ⟨pl, pc, hp⟩ : ∃ a b, at_ src i = (a, b) := ⟨_, _, rfl⟩
      have HF := Lib.hid (show scanL src = .ok (acc ++ [(noTk, i, i)]) by rw [HSC.out, scanAt_end hii]; rfl)
      have HV := Lib.hid (show flat src (acc ++ [(noTk, i, i)]) = flat src acc ++ [.int .u8 0, .complex .f64 (fl pl) (fl pc), .complex .f64 (fl pl) (fl pc), .string ⟨#[]⟩, .int .i64 0] by rw [flat_snoc]; simp only [Tok.vals, hp]; rfl)
      have PC := Lib.hid (fun w => pos_at (HAT.out i).1 w)
      have hz : PS w wr (at_ src i).1 (at_ src i).2 lv acc.length (flat src acc) := ⟨HBK.out, HO.out, HBL.out⟩
      rw [hp] at PC hz
      have HZ := Lib.hid hz.drew
      have haccn : acc.length ≤ 1000000 := by omega
      obtain ⟨m0, m1, f0, f1⟩ := hz.facts
      obtain ⟨i0, hi, hz0, hz1, hz2⟩ := info_parts info35
      clear hp hz HSC HBK HO HBL HS HSR HSRC HAT
      generalize hln : acc.length = an at *
      generalize hfl : flat src acc = xs at *
      have HLN := Lib.hid hln
      clear hfl hln
      go_wp2
      go_region_law (first
        | (go_simp; go_at_call 27; (with_reducible refine (PC.out _).mono ?_); rintro e x ⟨rfl, hb⟩; have HZ := Lib.hid (HZ.out.below hb); clear hb; obtain ⟨m0, m1, f0, f1⟩ := HZ.out.facts; have Q := app_facts HZ.out haccn #[.int .u8 0, .complex .f64 (fl pl) (fl pc), .complex .f64 (fl pl) (fl pc), .string ⟨#[]⟩, .int .i64 0] rfl)
        | (refine step_append_lies _ (by rfl) _ _ _ (by rfl) (w.heap.size + 1) 35 i0 _ 5 64 Tryd.underlying23 hi hz0 hz1 hz2 rfl (by omega) lv an xs (by rfl) Q.out.2.2.2.2 ⟨x.heap.size, 0, none⟩ 1 1 [.int .u8 0, .complex .f64 (fl pl) (fl pc), .complex .f64 (fl pl) (fl pc), .string ⟨#[]⟩, .int .i64 0] (by rfl) (by rfl) Q.out.1 Q.out.2.1 (by omega) Q.out.2.2.1 (by omega) Q.out.2.2.2.1 (x.heap.size + 1) (by simp) ?_; intro g' cap w1 hown1 hgrow hor hlt1; have HE := Lib.hid (And.intro hown1 (PS.appended HZ.out hown1 hgrow).bel); clear hown1 hgrow hor hlt1))
      all_goals
        go_wp2
        go_ret3
        rw [HF.out]
        have hl : (acc ++ [(noTk, i, i)]).length = an + 1 := by rw [List.length_append, HLN.out]; rfl
        refine ⟨g', cap, by rw [hl]; rfl, ?_, HE.out.2⟩
        rw [hl, HV.out]
        exact own_mono HE.out.1 (Nat.le_succ _)
    · have hne : s'.toList.isEmpty = false := by rw [ByteArray.toList_eq, List.isEmpty_eq_false_iff, ne_eq, empty_iff]; omega
      have hne2 : ¬ s'.toList = [] := by rw [ByteArray.toList_eq, empty_iff]; omega
      have x0 : (0 : Int) < (s'.size : Int) := by omega
      have hil : i < src.length := by omega
      have HH : Hid ((src.drop i).head? = some s'[0]) := Lib.hid (by rw [← HSR.out]; exact head_at s' h0)
      obtain ⟨pl, pc, hp⟩ : ∃ a b, at_ src i = (a, b) := ⟨_, _, rfl⟩
      have hz : PS w wr (at_ src i).1 (at_ src i).2 lv acc.length (flat src acc) := ⟨HBK.out, HO.out, HBL.out⟩
      have PC := Lib.hid (fun w => pos_at (HAT.out i).1 w)
      rw [hp] at hz PC
      have HZ := Lib.hid hz
      have hlt1 := hz.lt
      have t9 : ((s'[0].toNat : Int) == 9) = (s'[0] == 9) := u8_eq s'[0] 9 (by omega)
      have t10 : ((s'[0].toNat : Int) == 10) = (s'[0] == 10) := u8_eq s'[0] 10 (by omega)
      have t13 : ((s'[0].toNat : Int) == 13) = (s'[0] == 13) := u8_eq s'[0] 13 (by omega)
      have t32 : ((s'[0].toNat : Int) == 32) = (s'[0] == 32) := u8_eq s'[0] 32 (by omega)
      have hB : isB s'[0] = (s'[0] == 9 || s'[0] == 10 || s'[0] == 13 || s'[0] == 32) := rfl
      clear HBK HO HBL hz
      generalize (s'[0] == 9) = e9 at *
      generalize (s'[0] == 10) = e10 at *
      generalize (s'[0] == 13) = e13 at *
      generalize (s'[0] == 32) = e32 at *
      by_cases hb : isB s'[0] = true
      · have HNX := Lib.hid (show scanL src = (scanAt src (i + 1)).map (acc ++ ·) by
          rw [HSC.out, scanAt_blank hil (n := 1) (by unfold item; rw [HH.out, Option.getD_some, if_pos hb])])
        have hB' := hB.symm.trans hb
        clear hB HSC HH
        rcases e9 with _ | _
        · rcases e10 with _ | _
          · rcases e13 with _ | _
            · rcases e32 with _ | _
              · cases hB'
              · have hsl := fun w => run_slice_string_h (P := Tryd.prog) (w := w) (t := 9) (s := s') Tryd.underlying9 .i64 1 (by omega) (by omega)
                have hsl2 := fun w => run_slice_string_l (P := Tryd.prog) (w := w) (t := 9) (s := s') Tryd.underlying9 .i64 1 (by omega) (by omega)
                rw [show (1 : Int).toNat = 1 from rfl] at hsl hsl2
                obtain ⟨ql, qc, hq⟩ : ∃ a b, at_ src (i + 1) = (a, b) := ⟨_, _, rfl⟩
                have bh := fun w => beh_at (q := at_ src (i + 1)) (s'.extract 0 (1)) (HAT.out i).1 (by rw [take_data, HSR.out]; exact at_add src i _) (by simp; omega) w
                rw [hp, hq] at bh
                have BH := Lib.hid bh
                obtain ⟨m0, m1, f0, f1⟩ := HZ.out.facts
                have HZ := Lib.hid HZ.out.drew
                have HSD := Lib.hid (show (s'.extract (1) s'.size).data.toList = src.drop (i + 1) by rw [ByteArray.data_extract, Array.toList_extract, List.extract_eq_take_drop, HSR.out, List.drop_drop, List.take_of_length_le (by rw [List.length_drop]; omega)])
                have HSZ := Lib.hid (show (s'.extract (1) s'.size).size = s'.size - (1) by simp)
                have HQ := Lib.hid hq
                clear bh hq
                go_wp2
                go_region_law (first
                  | (go_simp; go_at_call 30; (with_reducible refine (BH.out _).mono ?_); rintro e x ⟨rfl, hb⟩; have HZ := Lib.hid (HZ.out.below hb); clear hb; obtain ⟨m0, m1, f0, f1⟩ := HZ.out.facts))
                all_goals
                  go_wp2
                  go_roundw
                  case rel =>
                    have hs := HZ.out.setPos ql qc
                    refine ⟨i + 1, acc, s'.extract (1) s'.size, _, by rw [HSZ.out]; omega, rfl, rfl, hs.lt, by omega, Lib.hid HSD.out, Lib.hid ?_, Lib.hid (by rw [HQ.out]; exact hs.pos), Lib.hid hs.bel, Lib.hid HNX.out⟩
                    exact hs.own
                  case measure => (show strLen _ < strLen _); simp only [strLen]; rw [HSZ.out]; omega
            · have hsl := fun w => run_slice_string_h (P := Tryd.prog) (w := w) (t := 9) (s := s') Tryd.underlying9 .i64 1 (by omega) (by omega)
              have hsl2 := fun w => run_slice_string_l (P := Tryd.prog) (w := w) (t := 9) (s := s') Tryd.underlying9 .i64 1 (by omega) (by omega)
              rw [show (1 : Int).toNat = 1 from rfl] at hsl hsl2
              obtain ⟨ql, qc, hq⟩ : ∃ a b, at_ src (i + 1) = (a, b) := ⟨_, _, rfl⟩
              have bh := fun w => beh_at (q := at_ src (i + 1)) (s'.extract 0 (1)) (HAT.out i).1 (by rw [take_data, HSR.out]; exact at_add src i _) (by simp; omega) w
              rw [hp, hq] at bh
              have BH := Lib.hid bh
              obtain ⟨m0, m1, f0, f1⟩ := HZ.out.facts
              have HZ := Lib.hid HZ.out.drew
              have HSD := Lib.hid (show (s'.extract (1) s'.size).data.toList = src.drop (i + 1) by rw [ByteArray.data_extract, Array.toList_extract, List.extract_eq_take_drop, HSR.out, List.drop_drop, List.take_of_length_le (by rw [List.length_drop]; omega)])
              have HSZ := Lib.hid (show (s'.extract (1) s'.size).size = s'.size - (1) by simp)
              have HQ := Lib.hid hq
              clear bh hq
              go_wp2
              go_region_law (first
                | (go_simp; go_at_call 30; (with_reducible refine (BH.out _).mono ?_); rintro e x ⟨rfl, hb⟩; have HZ := Lib.hid (HZ.out.below hb); clear hb; obtain ⟨m0, m1, f0, f1⟩ := HZ.out.facts))
              all_goals
                go_wp2
                go_roundw
                case rel =>
                  have hs := HZ.out.setPos ql qc
                  refine ⟨i + 1, acc, s'.extract (1) s'.size, _, by rw [HSZ.out]; omega, rfl, rfl, hs.lt, by omega, Lib.hid HSD.out, Lib.hid ?_, Lib.hid (by rw [HQ.out]; exact hs.pos), Lib.hid hs.bel, Lib.hid HNX.out⟩
                  exact hs.own
                case measure => (show strLen _ < strLen _); simp only [strLen]; rw [HSZ.out]; omega
          · have hsl := fun w => run_slice_string_h (P := Tryd.prog) (w := w) (t := 9) (s := s') Tryd.underlying9 .i64 1 (by omega) (by omega)
            have hsl2 := fun w => run_slice_string_l (P := Tryd.prog) (w := w) (t := 9) (s := s') Tryd.underlying9 .i64 1 (by omega) (by omega)
            rw [show (1 : Int).toNat = 1 from rfl] at hsl hsl2
            obtain ⟨ql, qc, hq⟩ : ∃ a b, at_ src (i + 1) = (a, b) := ⟨_, _, rfl⟩
            have bh := fun w => beh_at (q := at_ src (i + 1)) (s'.extract 0 (1)) (HAT.out i).1 (by rw [take_data, HSR.out]; exact at_add src i _) (by simp; omega) w
            rw [hp, hq] at bh
            have BH := Lib.hid bh
            obtain ⟨m0, m1, f0, f1⟩ := HZ.out.facts
            have HZ := Lib.hid HZ.out.drew
            have HSD := Lib.hid (show (s'.extract (1) s'.size).data.toList = src.drop (i + 1) by rw [ByteArray.data_extract, Array.toList_extract, List.extract_eq_take_drop, HSR.out, List.drop_drop, List.take_of_length_le (by rw [List.length_drop]; omega)])
            have HSZ := Lib.hid (show (s'.extract (1) s'.size).size = s'.size - (1) by simp)
            have HQ := Lib.hid hq
            clear bh hq
            go_wp2
            go_region_law (first
              | (go_simp; go_at_call 30; (with_reducible refine (BH.out _).mono ?_); rintro e x ⟨rfl, hb⟩; have HZ := Lib.hid (HZ.out.below hb); clear hb; obtain ⟨m0, m1, f0, f1⟩ := HZ.out.facts))
            all_goals
              go_wp2
              go_roundw
              case rel =>
                have hs := HZ.out.setPos ql qc
                refine ⟨i + 1, acc, s'.extract (1) s'.size, _, by rw [HSZ.out]; omega, rfl, rfl, hs.lt, by omega, Lib.hid HSD.out, Lib.hid ?_, Lib.hid (by rw [HQ.out]; exact hs.pos), Lib.hid hs.bel, Lib.hid HNX.out⟩
                exact hs.own
              case measure => (show strLen _ < strLen _); simp only [strLen]; rw [HSZ.out]; omega
        · have hsl := fun w => run_slice_string_h (P := Tryd.prog) (w := w) (t := 9) (s := s') Tryd.underlying9 .i64 1 (by omega) (by omega)
          have hsl2 := fun w => run_slice_string_l (P := Tryd.prog) (w := w) (t := 9) (s := s') Tryd.underlying9 .i64 1 (by omega) (by omega)
          rw [show (1 : Int).toNat = 1 from rfl] at hsl hsl2
          obtain ⟨ql, qc, hq⟩ : ∃ a b, at_ src (i + 1) = (a, b) := ⟨_, _, rfl⟩
          have bh := fun w => beh_at (q := at_ src (i + 1)) (s'.extract 0 (1)) (HAT.out i).1 (by rw [take_data, HSR.out]; exact at_add src i _) (by simp; omega) w
          rw [hp, hq] at bh
          have BH := Lib.hid bh
          obtain ⟨m0, m1, f0, f1⟩ := HZ.out.facts
          have HZ := Lib.hid HZ.out.drew
          have HSD := Lib.hid (show (s'.extract (1) s'.size).data.toList = src.drop (i + 1) by rw [ByteArray.data_extract, Array.toList_extract, List.extract_eq_take_drop, HSR.out, List.drop_drop, List.take_of_length_le (by rw [List.length_drop]; omega)])
          have HSZ := Lib.hid (show (s'.extract (1) s'.size).size = s'.size - (1) by simp)
          have HQ := Lib.hid hq
          clear bh hq
          go_wp2
          go_region_law (first
            | (go_simp; go_at_call 30; (with_reducible refine (BH.out _).mono ?_); rintro e x ⟨rfl, hb⟩; have HZ := Lib.hid (HZ.out.below hb); clear hb; obtain ⟨m0, m1, f0, f1⟩ := HZ.out.facts))
          all_goals
            go_wp2
            go_roundw
            case rel =>
              have hs := HZ.out.setPos ql qc
              refine ⟨i + 1, acc, s'.extract (1) s'.size, _, by rw [HSZ.out]; omega, rfl, rfl, hs.lt, by omega, Lib.hid HSD.out, Lib.hid ?_, Lib.hid (by rw [HQ.out]; exact hs.pos), Lib.hid hs.bel, Lib.hid HNX.out⟩
              exact hs.own
            case measure => (show strLen _ < strLen _); simp only [strLen]; rw [HSZ.out]; omega
      · have h4 : e9 = false ∧ e10 = false ∧ e13 = false ∧ e32 = false := by
          rw [hB] at hb
          revert hb
          cases e9 <;> cases e10 <;> cases e13 <;> cases e32 <;> simp
        obtain ⟨rfl, rfl, rfl, rfl⟩ := h4
        have HB := Lib.hid hb
        clear hB hb
        by_cases h2 : (src.drop i).take 2 = [40, 42]
        · have hsz2 : (2 : Int) ≤ (s'.size : Int) := by
            have := congrArg List.length h2
            rw [List.length_take, List.length_drop] at this
            simp at this; omega
          have hsb : ((s'.extract 0 2).toList == [40, 42]) = true := by rw [ext_front, HSR.out, h2]; rfl
          have hci : item (src.drop i) = if cmt 0 0 (src.drop i) = 0 then .bad 43 else .blank (cmt 0 0 (src.drop i)) := by
            unfold item; rw [HH.out, Option.getD_some, if_neg HB.out, if_pos h2]
          have CM := Lib.hid (fun w => comment_any s' (by omega) w)
          rw [HSR.out] at CM
          clear h2
          generalize cmt 0 0 (src.drop i) = n at *
          obtain ⟨m0, m1, f0, f1⟩ := HZ.out.facts
          go_wp2_with fail
          ((with_reducible refine (CM.out _).mono ?_); rintro e w1 ⟨rfl, rfl⟩)
          by_cases hn : n = 0
          · subst hn
            rw [if_pos rfl] at hci
            have HF := Lib.hid (show scanL src = .error (i, 43) by rw [HSC.out, scanAt_bad hil hci]; rfl)
            have HP := Lib.hid hp
            clear hci HSC CM HH HB hp
            go_wp2_with fail
            ((with_reducible refine (PC.out _).mono ?_); rintro e w1 ⟨rfl, hb⟩)
            have HE := Lib.hid (HZ.out.below hb).bel
            clear hb
            go_wp2
            go_ret3
            rw [HF.out]
            refine ⟨?_, HE.out⟩
            rw [HP.out]
            rfl
          · rw [if_neg hn] at hci
            have HNX := Lib.hid (show scanL src = (scanAt src (i + n)).map (acc ++ ·) by rw [HSC.out, scanAt_blank hil hci])
            have hnb := (item_in hil).1 n hci
            have hn1 : (n : Int) ≤ (s'.size : Int) := by omega
            have hn0 : ((n : Int) == 0) = false := by simp only [beq_eq_false_iff_ne, ne_eq]; omega
            clear hci HSC CM HH HB hn m0 m1 f0 f1
            have hsl := fun w => run_slice_string_h (P := Tryd.prog) (w := w) (t := 9) (s := s') Tryd.underlying9 .i64 (n : Int) (by omega) (by omega)
            have hsl2 := fun w => run_slice_string_l (P := Tryd.prog) (w := w) (t := 9) (s := s') Tryd.underlying9 .i64 (n : Int) (by omega) (by omega)
            simp only [Int.toNat_natCast] at hsl hsl2
            obtain ⟨ql, qc, hq⟩ : ∃ a b, at_ src (i + n) = (a, b) := ⟨_, _, rfl⟩
            have bh := fun w => beh_at (q := at_ src (i + n)) (s'.extract 0 (n)) (HAT.out i).1 (by rw [take_data, HSR.out]; exact at_add src i _) (by simp; omega) w
            rw [hp, hq] at bh
            have BH := Lib.hid bh
            obtain ⟨m0, m1, f0, f1⟩ := HZ.out.facts
            have HZ := Lib.hid HZ.out.drew
            have HSD := Lib.hid (show (s'.extract (n) s'.size).data.toList = src.drop (i + n) by rw [ByteArray.data_extract, Array.toList_extract, List.extract_eq_take_drop, HSR.out, List.drop_drop, List.take_of_length_le (by rw [List.length_drop]; omega)])
            have HSZ := Lib.hid (show (s'.extract (n) s'.size).size = s'.size - (n) by simp)
            have HQ := Lib.hid hq
            clear bh hq
            go_wp2
            go_region_law (first
              | (go_simp; go_at_call 30; (with_reducible refine (BH.out _).mono ?_); rintro e x ⟨rfl, hb⟩; have HZ := Lib.hid (HZ.out.below hb); clear hb; obtain ⟨m0, m1, f0, f1⟩ := HZ.out.facts))
            all_goals
              go_wp2
              go_roundw
              case rel =>
                have hs := HZ.out.setPos ql qc
                refine ⟨i + n, acc, s'.extract (n) s'.size, _, by rw [HSZ.out]; omega, rfl, rfl, hs.lt, by omega, Lib.hid HSD.out, Lib.hid ?_, Lib.hid (by rw [HQ.out]; exact hs.pos), Lib.hid hs.bel, Lib.hid HNX.out⟩
                exact hs.own
              case measure => (show strLen _ < strLen _); simp only [strLen]; rw [HSZ.out]; omega
        · have hsb : (s'.size < 2 ∨ ((s'.extract 0 2).toList == [40, 42]) = false) := by
            right; rw [ext_front, HSR.out]; simpa using h2
          have hci : item (src.drop i) = match oneN s'.data.toList with | .error e => .bad e | .ok (t, n) => .tok t n := by
            unfold item; rw [HH.out, Option.getD_some, if_neg HB.out, if_neg h2, HSR.out]; cases oneN _ <;> rfl
          have HCI := Lib.hid hci
          obtain ⟨m0, m1, f0, f1⟩ := HZ.out.facts
          clear hci h2 HB HH
          rcases Nat.lt_or_ge s'.size 2 with hsz | hsz
          case' inl =>
            have hz2 : ¬ (2 : Int) ≤ (s'.size : Int) := by omega
            have hz3 : decide ((2 : Int) ≤ (s'.size : Int)) = false := by simp; omega
            clear hsb hsz
            go_wp2_with fail
          case' inr =>
            have hz2 : (2 : Int) ≤ (s'.size : Int) := by omega
            have hz3 : decide ((2 : Int) ≤ (s'.size : Int)) = true := by simp; omega
            have hsb := hsb.resolve_left (by omega)
            clear hsz
            go_wp2_with fail
          all_goals
            ((with_reducible refine (One_any s' h0 (by omega) _).mono ?_); rintro e w1 ⟨he, hb⟩)
            have HZ := Lib.hid (HZ.out.below hb)
            have hlt2 := HZ.out.lt
            clear hb m0 m1 f0 f1
            obtain ⟨m0, m1, f0, f1⟩ := HZ.out.facts
            rcases hone : oneN s'.data.toList with k | ⟨⟨tk, tt, tn⟩, n⟩
            · rw [hone] at he
              have hci := HCI.out
              rw [hone] at hci
              have hk := oneN_err _ _ hone
              have HF := Lib.hid (show scanL src = .error (i, k) by rw [HSC.out, scanAt_bad hil hci]; rfl)
              have hk0 : ((k : Int) == 0) = false := by simp only [beq_eq_false_iff_ne, ne_eq]; omega
              have hk1 : ((k : Int) != 0) = true := ne_of_eq hk0
              have HP := Lib.hid hp
              unfold oneEnd at he
              subst he
              clear hci HSC HCI hone hk hp
              simp only [Tk.val, Tk.vals, noTk, C, fl_0]
              go_wp2_with fail
              ((with_reducible refine (PC.out _).mono ?_); rintro e w2 ⟨rfl, hb⟩)
              have HE := Lib.hid ((HZ.out.tok (.int .u8 0) (.complex .f64 0 0) (.complex .f64 0 0) (.string ⟨#[]⟩) (.int .i64 0)).below hb).bel
              clear hb
              go_wp2
              go_ret3
              rw [HF.out]
              refine ⟨?_, HE.out⟩
              rw [HP.out]
              rfl
            · rw [hone] at he
              have hci := HCI.out
              rw [hone] at hci
              have HNX := Lib.hid (show scanL src = (scanAt src (i + n)).map ((acc ++ [(⟨tk, tt, tn⟩, i, i + n)]) ++ ·) by
                rw [HSC.out, scanAt_tok hil hci, map_map_e]; congr 1; funext x; simp)
              have hnb := (item_in hil).2 _ n hci
              have hn1 : (n : Int) ≤ (s'.size : Int) := by omega
              unfold oneEnd at he
              subst he
              clear hci HSC HCI hone
              simp only [Tk.val, Tk.vals, C, fl_0]
              have HR := Lib.hid (HZ.out.tok (.int .u8 tk) (.complex .f64 0 0) (.complex .f64 0 0) (.string tt) (.int .i64 tn))
              clear HZ
              go_wp2_with fail
              ((with_reducible refine (PC.out _).mono ?_); rintro e w2 ⟨rfl, hb⟩)
              have hr := HR.out.below hb
              clear m0 m1 f0 f1 hb
              obtain ⟨m0, m1, f0, f1⟩ := hr.facts
              obtain ⟨c0, c1, c2, c3, c4, g0, g1, g2, g3, g4⟩ := hr.tok.tok
              have HR := Lib.hid (hr.set1 (.complex .f64 (fl pl) (fl pc)))
              clear hr
              go_wp2
              generalize w2.setCell ⟨w1.heap.size, 1, none⟩ (.complex .f64 (fl pl) (fl pc)) = w3 at *
              clear m0 m1 f0 f1 c0 c1 c2 c3 c4 g0 g1 g2 g3 g4
              obtain ⟨m0, m1, f0, f1⟩ := HR.out.facts
              obtain ⟨c0, c1, c2, c3, c4, g0, g1, g2, g3, g4⟩ := HR.out.tok.tok
              have hsl := fun w => run_slice_string_h (P := Tryd.prog) (w := w) (t := 9) (s := s') Tryd.underlying9 .i64 (n : Int) (by omega) (by omega)
              simp only [Int.toNat_natCast] at hsl
              obtain ⟨ql, qc, hq⟩ : ∃ a b, at_ src (i + n) = (a, b) := ⟨_, _, rfl⟩
              have bh := fun w => beh_at (q := at_ src (i + n)) (s'.extract 0 n) (HAT.out i).1 (by rw [take_data, HSR.out]; exact at_add src i _) (by simp; omega) w
              have PQ := Lib.hid (fun w => pos_at (HAT.out (i + n)).1 w)
              rw [hp, hq] at bh
              rw [hq] at PQ
              have BH := Lib.hid bh
              have HV := Lib.hid (show Tok.vals src (⟨tk, tt, tn⟩, i, i + n) = [.int .u8 tk, .complex .f64 (fl pl) (fl pc), .complex .f64 (fl ql) (fl qc), .string tt, .int .i64 tn] by simp only [Tok.vals, hp, hq]; rfl)
              have HR := Lib.hid HR.out.drew
              clear bh hq
              go_region_law (first
                | (go_simp; go_at_call 30; (with_reducible refine (BH.out _).mono ?_); rintro e x ⟨rfl, hb⟩; have HR := Lib.hid (HR.out.below hb); clear hb; obtain ⟨m0, m1, f0, f1⟩ := HR.out.facts; obtain ⟨c0, c1, c2, c3, c4, g0, g1, g2, g3, g4⟩ := HR.out.tok.tok)
                | (go_simp; go_at_call 27; (with_reducible refine (PQ.out _).mono ?_); rintro e x ⟨rfl, hb⟩; have HR := Lib.hid (HR.out.below hb); clear hb; obtain ⟨m0, m1, f0, f1⟩ := HR.out.facts; obtain ⟨c0, c1, c2, c3, c4, g0, g1, g2, g3, g4⟩ := HR.out.tok.tok))
              all_goals
                clear hsl
                have HR := Lib.hid (HR.out.set2 (.complex .f64 (fl ql) (fl qc)))
                generalize x.setCell ⟨w1.heap.size, 2, none⟩ (.complex .f64 (fl ql) (fl qc)) = w4 at *
                obtain ⟨m0, m1, f0, f1⟩ := HR.out.facts
                obtain ⟨c0, c1, c2, c3, c4, g0, g1, g2, g3, g4⟩ := HR.out.tok.tok
                obtain ⟨i0, hi0, hz0, hz1, hz2⟩ := info_parts info35
                have hacn : acc.length ≤ 1000000 := by omega
                have Q := app_facts HR.out.toPS hacn #[.int .u8 tk, .complex .f64 (fl pl) (fl pc), .complex .f64 (fl ql) (fl qc), .string tt, .int .i64 tn] rfl
                go_wp2_with (at_builtin; refine wpList_append_lies _ rfl _ _ _ rfl (w.heap.size + 1) 35 i0 _ 5 64 Tryd.underlying23 hi0 hz0 hz1 hz2 rfl (by omega) lv acc.length (flat src acc) rfl Q.out.2.2.2.2 ⟨w4.heap.size, 0, none⟩ 1 1 [.int .u8 tk, .complex .f64 (fl pl) (fl pc), .complex .f64 (fl ql) (fl qc), .string tt, .int .i64 tn] rfl rfl Q.out.1 Q.out.2.1 (by omega) Q.out.2.2.1 (by omega) Q.out.2.2.2.1 (w4.heap.size + 1) (by simp) ?_; intro g' cap w5 hown1 hgrow hor hlt5; have HZ := Lib.hid (PS.appended HR.out.toPS hown1 hgrow); clear hown1 hgrow hor hlt5)
                clear m0 m1 f0 f1 c0 c1 c2 c3 c4 g0 g1 g2 g3 g4 Q hi0 hz0 hz1 hz2
                have hsl := fun w => run_slice_string_h (P := Tryd.prog) (w := w) (t := 9) (s := s') Tryd.underlying9 .i64 (n : Int) (by omega) (by omega)
                have hsl2 := fun w => run_slice_string_l (P := Tryd.prog) (w := w) (t := 9) (s := s') Tryd.underlying9 .i64 (n : Int) (by omega) (by omega)
                simp only [Int.toNat_natCast] at hsl hsl2
                obtain ⟨ql, qc, hq⟩ : ∃ a b, at_ src (i + n) = (a, b) := ⟨_, _, rfl⟩
                have bh := fun w => beh_at (q := at_ src (i + n)) (s'.extract 0 (n)) (HAT.out i).1 (by rw [take_data, HSR.out]; exact at_add src i _) (by simp; omega) w
                rw [hp, hq] at bh
                have BH := Lib.hid bh
                obtain ⟨m0, m1, f0, f1⟩ := HZ.out.facts
                have HZ := Lib.hid HZ.out.drew
                have HSD := Lib.hid (show (s'.extract (n) s'.size).data.toList = src.drop (i + n) by rw [ByteArray.data_extract, Array.toList_extract, List.extract_eq_take_drop, HSR.out, List.drop_drop, List.take_of_length_le (by rw [List.length_drop]; omega)])
                have HSZ := Lib.hid (show (s'.extract (n) s'.size).size = s'.size - (n) by simp)
                have HQ := Lib.hid hq
                clear bh hq
                go_wp2
                go_region_law (first
                  | (go_simp; go_at_call 30; (with_reducible refine (BH.out _).mono ?_); rintro e x ⟨rfl, hb⟩; have HZ := Lib.hid (HZ.out.below hb); clear hb; obtain ⟨m0, m1, f0, f1⟩ := HZ.out.facts))
                all_goals
                  go_wp2
                  go_roundw
                  case rel =>
                    have hs := HZ.out.setPos ql qc
                    refine ⟨i + n, acc ++ [(⟨tk, tt, tn⟩, i, i + n)], s'.extract (n) s'.size, _, by rw [HSZ.out]; omega, rfl, rfl, hs.lt, by rw [List.length_append]; simp only [List.length_singleton]; omega, Lib.hid HSD.out, Lib.hid ?_, Lib.hid (by rw [HQ.out]; exact hs.pos), Lib.hid hs.bel, Lib.hid HNX.out⟩
                    rw [flat_snoc, HV.out, List.length_append]; exact hs.own
                  case measure => (show strLen _ < strLen _); simp only [strLen]; rw [HSZ.out]; omega
end Go.Proofs.YtkiedbanobjmlaaDoor.Lx
