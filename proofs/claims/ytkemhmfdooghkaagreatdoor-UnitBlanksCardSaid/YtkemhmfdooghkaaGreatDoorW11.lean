/- A part of the proof: R11, S1. -/
import Derived.Test.YtkemhmfdooghkaaGreatDoorW1
import Derived.Test.YtkemhmfdooghkaaGreatDoorW8
set_option linter.unusedSimpArgs false
set_option linter.unusedVariables false
set_option maxRecDepth 100000
set_option maxHeartbeats 6400000
namespace Go.Proofs.YtkemhmfdooghkaaGreatDoor.Lx
open Go.RowKit
open Pl Fl
attribute [local go_sem] run_store_complexL
attribute [local go_sem ↓] Go.wp_at_zero Go.wp_at_succ
theorem rScan_any (s : ByteArray) (hs : s.size ≤ 9223372036854775800) (w : World) :
 Calls Tryz.prog 11 #[.string s] w fun e w' => scanEnd w s.data.toList (scanL s.data.toList) e w' := by
 have hal : w.heap.size < (w.alloc (.cells #[.int .i64 1, .int .i64 1] 56)).heap.size := by rw [World.size_alloc]; exact Nat.lt_succ_self _
 have hab : Below w.heap.size w (w.alloc (.cells #[.int .i64 1, .int .i64 1] 56)) := (Below.refl w.heap.size w).alloc (Nat.le_refl _) _
 by_cases hbig : 16384 < s.size
 ·have HS := qh (show scanL s.data.toList = .error (0, 5) by unfold scanL; rw [if_pos (by simpa using hbig)])
  have hbig' : (16384 : Int) < (s.size : Int) := by omega
  have HAB := qh hab
  have HAL := qh hal
  clear hab hal
  go_enter Tryz.func11, Tryz.ntmps11
  go_wp2_with fail
  ((with_reducible refine (pos_one _).mono ?_); rintro e w1 ⟨rfl, hb⟩)
  have hb1 : Below w.heap.size w w1 := HAB.out.trans (hb.mono (Nat.le_of_lt HAL.out))
  go_wp2
  go_ret3
  rw [HS.out]
  exact ⟨rfl, hb1⟩
 have hbig' : ¬ (16384 : Int) < (s.size : Int) := by omega
 obtain ⟨src, hsrc⟩ : ∃ src, src = s.data.toList := ⟨_, rfl⟩
 have hsl0 : src.length = s.size := by rw [hsrc]; simp
 have HS := qh (show scanL src = scanAt src 0 by rw [scanL_eq, if_neg (by omega)])
 have hs16 : s.size ≤ 16384 := by omega
 have HAT := qh (at_is src (by omega))
 have HSRC := qh hsrc
 have HAB := qh hab
 have HBK0 := qh (show Blk (w.alloc (.cells #[.int .i64 1, .int .i64 1] 56)) w.heap.size 56 #[.int .i64 (at_ src 0).1, .int .i64 (at_ src 0).2] from Blk.new _ _ _)
 rw [← hsrc]
 clear hab hsrc
 go_enter Tryz.func11, Tryz.ntmps11
 go_wp2_with fail
 clear hbig hbig'
 go_loopw [0, 6] (fun sv av wr => ∃ (i : Nat) (acc : List Tok) (s' : ByteArray) (lv : Value), i + s'.size = s.size ∧ sv = .string s' ∧ lv = av ∧ w.heap.size < wr.heap.size ∧ acc.length ≤ i ∧ Hid (s'.data.toList = src.drop i) ∧ Hid (wr.ownsRow (w.heap.size + 1) 40 5 lv acc.length (flat src acc)) ∧ Hid (Blk wr w.heap.size 56 #[.int .i64 (at_ src i).1, .int .i64 (at_ src i).2]) ∧ Hid (Below w.heap.size w wr) ∧ Hid (scanL src = (scanAt src i).map (acc ++ ·))) (fun sv _ _ => strLen sv)
 case atStart =>
  refine ⟨0, [], s, _, by omega, rfl, rfl, hal, Nat.le_refl _, qh (by rw [HSRC.out]; rfl), qh ⟨rfl, .inl ⟨rfl, rfl⟩⟩, HBK0, HAB, qh ?_⟩
  rw [HS.out]
  all_goals (cases scanAt src 0 <;> rfl)
 case round =>
  obtain ⟨i, acc, s', lv, hi, rfl, rfl, hlt0, hacc, HSR, HO, HBK, HBL, HSC⟩ := hrel
  clear hal HBK0 HAB
  rcases Nat.eq_zero_or_pos s'.size with h0 | h0
  ·have hii : src.length ≤ i := by omega
   have hre : s'.toList.isEmpty = true := by rw [ByteArray.toList_eq, List.isEmpty_iff, empty_iff]; exact h0
   have hre2 : s'.toList = [] := by rw [ByteArray.toList_eq, empty_iff]; exact h0
   obtain ⟨pl, pc, hp⟩ : ∃ a b, at_ src i = (a, b) := ⟨_, _, rfl⟩
   have HF := qh (show scanL src = .ok (acc ++ [(noTk, i, i)]) by rw [HSC.out, scanAt_end hii]; rfl)
   have HV := qh (show flat src (acc ++ [(noTk, i, i)]) = flat src acc ++ [.int .u8 0, .complex .f64 (fl pl) (fl pc), .complex .f64 (fl pl) (fl pc), .string ⟨#[]⟩, .int .i64 0] by rw [flat_snoc]; simp only [Tok.vals, hp]; rfl)
   have PC := qh (fun w => pos_at (HAT.out i).1 w)
   have hz : PS w wr (at_ src i).1 (at_ src i).2 lv acc.length (flat src acc) := ⟨HBK.out, HO.out, HBL.out⟩
   rw [hp] at PC hz
   have HZ := qh hz.drew
   have haccn : acc.length ≤ 1000000 := by omega
   obtain ⟨m0, m1, f0, f1⟩ := hz.facts
   obtain ⟨i0, hi, hz0, hz1, hz2⟩ := info_parts info40
   clear hp hz HSC HBK HO HBL HS HSR HSRC HAT
   generalize hln : acc.length = an at *
   generalize hfl : flat src acc = xs at *
   have HLN := qh hln
   clear hfl hln
   go_wp2
   go_region_law (first
    | (go_simp; go_at_call 16; (with_reducible refine (PC.out _).mono ?_); rintro e x ⟨rfl, hb⟩; have HZ := qh (HZ.out.below hb); clear hb; obtain ⟨m0, m1, f0, f1⟩ := HZ.out.facts; have Q := app_facts HZ.out haccn #[.int .u8 0, .complex .f64 (fl pl) (fl pc), .complex .f64 (fl pl) (fl pc), .string ⟨#[]⟩, .int .i64 0] rfl)
    | (refine step_append_lies _ (by rfl) _ _ _ (by rfl) (w.heap.size + 1) 40 i0 _ 5 64 Tryz.underlying28 hi hz0 hz1 hz2 rfl (by omega) lv an xs (by rfl) Q.out.2.2.2.2 ⟨x.heap.size, 0, none⟩ 1 1 [.int .u8 0, .complex .f64 (fl pl) (fl pc), .complex .f64 (fl pl) (fl pc), .string ⟨#[]⟩, .int .i64 0] (by rfl) (by rfl) Q.out.1 Q.out.2.1 (by omega) Q.out.2.2.1 (by omega) Q.out.2.2.2.1 (x.heap.size + 1) (by simp) ?_; intro g' cap w1 hown1 hgrow hor hlt1; have HE := qh (And.intro hown1 (PS.appended HZ.out hown1 hgrow).bel); clear hown1 hgrow hor hlt1))
   all_goals
    go_wp2
    go_ret3
    rw [HF.out]
    have hl : (acc ++ [(noTk, i, i)]).length = an + 1 := by rw [List.length_append, HLN.out]; rfl
    refine ⟨g', cap, by rw [hl]; rfl, ?_, HE.out.2⟩
    rw [hl, HV.out]
    exact own_mono HE.out.1 (Nat.le_succ _)
  ·have hne : s'.toList.isEmpty = false := by rw [ByteArray.toList_eq, List.isEmpty_eq_false_iff, ne_eq, empty_iff]; omega
   have hne2 : ¬ s'.toList = [] := by rw [ByteArray.toList_eq, empty_iff]; omega
   have x0 : (0 : Int) < (s'.size : Int) := by omega
   have hil : i < src.length := by omega
   have HH : Hid ((src.drop i).head? = some s'[0]) := qh (by rw [← HSR.out]; exact head_at s' h0)
   obtain ⟨pl, pc, hp⟩ : ∃ a b, at_ src i = (a, b) := ⟨_, _, rfl⟩
   have hz : PS w wr (at_ src i).1 (at_ src i).2 lv acc.length (flat src acc) := ⟨HBK.out, HO.out, HBL.out⟩
   have PC := qh (fun w => pos_at (HAT.out i).1 w)
   rw [hp] at hz PC
   have HZ := qh hz
   have hlt1 := hz.lt
   have t9 : ((s'[0].toNat : Int) == 9) = (s'[0] == 9) := u8_eq s'[0] 9 (by omega)
   have t10 : ((s'[0].toNat : Int) == 10) = (s'[0] == 10) := u8_eq s'[0] 10 (by omega)
   have t13 : ((s'[0].toNat : Int) == 13) = (s'[0] == 13) := u8_eq s'[0] 13 (by omega)
   have t32 : ((s'[0].toNat : Int) == 32) = (s'[0] == 32) := u8_eq s'[0] 32 (by omega)
   have hB : isB s'[0] = (s'[0] == 9 || s'[0] == 10 || s'[0] == 13 || s'[0] == 32) := rfl
   clear HBK HO HBL hz
   generalize (s'[0] == 9) = e9 at *
   generalize (s'[0] == 10) = e10 at *
   generalize (s'[0] == 13) = e13 at *
   generalize (s'[0] == 32) = e32 at *
   by_cases hb : isB s'[0] = true
   ·have HNX := qh (show scanL src = (scanAt src (i + 1)).map (acc ++ ·) by
     rw [HSC.out, scanAt_blank hil (n := 1) (by unfold item; rw [HH.out, Option.getD_some, if_pos hb])])
    have hB' := hB.symm.trans hb
    clear hB HSC HH
    rcases e9 with _ | _
    ·rcases e10 with _ | _
     ·rcases e13 with _ | _
      ·rcases e32 with _ | _
       ·cases hB'
       ·have hsl := fun w => run_slice_string_h (P := Tryz.prog) (w := w) (t := 9) (s := s') Tryz.underlying9 .i64 1 (by omega) (by omega)
        have hsl2 := fun w => run_slice_string_l (P := Tryz.prog) (w := w) (t := 9) (s := s') Tryz.underlying9 .i64 1 (by omega) (by omega)
        rw [show (1 : Int).toNat = 1 from rfl] at hsl hsl2
        obtain ⟨ql, qc, hq⟩ : ∃ a b, at_ src (i + 1) = (a, b) := ⟨_, _, rfl⟩
        have bh := fun w => beh_at (q := at_ src (i + 1)) (s'.extract 0 (1)) (HAT.out i).1 (by rw [take_data, HSR.out]; exact at_add src i _) (by simp; omega) w
        rw [hp, hq] at bh
        have BH := qh bh
        obtain ⟨m0, m1, f0, f1⟩ := HZ.out.facts
        have HZ := qh HZ.out.drew
        have HSD := qh (show (s'.extract (1) s'.size).data.toList = src.drop (i + 1) by rw [ByteArray.data_extract, Array.toList_extract, List.extract_eq_take_drop, HSR.out, List.drop_drop, List.take_of_length_le (by rw [List.length_drop]; omega)])
        have HSZ := qh (show (s'.extract (1) s'.size).size = s'.size - (1) by simp)
        have HQ := qh hq
        clear bh hq
        go_wp2
        go_region_law (first
         | (go_simp; go_at_call 24; (with_reducible refine (BH.out _).mono ?_); rintro e x ⟨rfl, hb⟩; have HZ := qh (HZ.out.below hb); clear hb; obtain ⟨m0, m1, f0, f1⟩ := HZ.out.facts))
        all_goals
         go_wp2
         go_roundw
         case rel =>
          have hs := HZ.out.setPos ql qc
          refine ⟨i + 1, acc, s'.extract (1) s'.size, _, by rw [HSZ.out]; omega, rfl, rfl, hs.lt, by omega, qh HSD.out, qh ?_, qh (by rw [HQ.out]; exact hs.pos), qh hs.bel, qh HNX.out⟩
          exact hs.own
         case measure => (show strLen _ < strLen _); simp only [strLen]; rw [HSZ.out]; omega
      ·have hsl := fun w => run_slice_string_h (P := Tryz.prog) (w := w) (t := 9) (s := s') Tryz.underlying9 .i64 1 (by omega) (by omega)
       have hsl2 := fun w => run_slice_string_l (P := Tryz.prog) (w := w) (t := 9) (s := s') Tryz.underlying9 .i64 1 (by omega) (by omega)
       rw [show (1 : Int).toNat = 1 from rfl] at hsl hsl2
       obtain ⟨ql, qc, hq⟩ : ∃ a b, at_ src (i + 1) = (a, b) := ⟨_, _, rfl⟩
       have bh := fun w => beh_at (q := at_ src (i + 1)) (s'.extract 0 (1)) (HAT.out i).1 (by rw [take_data, HSR.out]; exact at_add src i _) (by simp; omega) w
       rw [hp, hq] at bh
       have BH := qh bh
       obtain ⟨m0, m1, f0, f1⟩ := HZ.out.facts
       have HZ := qh HZ.out.drew
       have HSD := qh (show (s'.extract (1) s'.size).data.toList = src.drop (i + 1) by rw [ByteArray.data_extract, Array.toList_extract, List.extract_eq_take_drop, HSR.out, List.drop_drop, List.take_of_length_le (by rw [List.length_drop]; omega)])
       have HSZ := qh (show (s'.extract (1) s'.size).size = s'.size - (1) by simp)
       have HQ := qh hq
       clear bh hq
       go_wp2
       go_region_law (first
        | (go_simp; go_at_call 24; (with_reducible refine (BH.out _).mono ?_); rintro e x ⟨rfl, hb⟩; have HZ := qh (HZ.out.below hb); clear hb; obtain ⟨m0, m1, f0, f1⟩ := HZ.out.facts))
       all_goals
        go_wp2
        go_roundw
        case rel =>
         have hs := HZ.out.setPos ql qc
         refine ⟨i + 1, acc, s'.extract (1) s'.size, _, by rw [HSZ.out]; omega, rfl, rfl, hs.lt, by omega, qh HSD.out, qh ?_, qh (by rw [HQ.out]; exact hs.pos), qh hs.bel, qh HNX.out⟩
         exact hs.own
        case measure => (show strLen _ < strLen _); simp only [strLen]; rw [HSZ.out]; omega
     ·have hsl := fun w => run_slice_string_h (P := Tryz.prog) (w := w) (t := 9) (s := s') Tryz.underlying9 .i64 1 (by omega) (by omega)
      have hsl2 := fun w => run_slice_string_l (P := Tryz.prog) (w := w) (t := 9) (s := s') Tryz.underlying9 .i64 1 (by omega) (by omega)
      rw [show (1 : Int).toNat = 1 from rfl] at hsl hsl2
      obtain ⟨ql, qc, hq⟩ : ∃ a b, at_ src (i + 1) = (a, b) := ⟨_, _, rfl⟩
      have bh := fun w => beh_at (q := at_ src (i + 1)) (s'.extract 0 (1)) (HAT.out i).1 (by rw [take_data, HSR.out]; exact at_add src i _) (by simp; omega) w
      rw [hp, hq] at bh
      have BH := qh bh
      obtain ⟨m0, m1, f0, f1⟩ := HZ.out.facts
      have HZ := qh HZ.out.drew
      have HSD := qh (show (s'.extract (1) s'.size).data.toList = src.drop (i + 1) by rw [ByteArray.data_extract, Array.toList_extract, List.extract_eq_take_drop, HSR.out, List.drop_drop, List.take_of_length_le (by rw [List.length_drop]; omega)])
      have HSZ := qh (show (s'.extract (1) s'.size).size = s'.size - (1) by simp)
      have HQ := qh hq
      clear bh hq
      go_wp2
      go_region_law (first
       | (go_simp; go_at_call 24; (with_reducible refine (BH.out _).mono ?_); rintro e x ⟨rfl, hb⟩; have HZ := qh (HZ.out.below hb); clear hb; obtain ⟨m0, m1, f0, f1⟩ := HZ.out.facts))
      all_goals
       go_wp2
       go_roundw
       case rel =>
        have hs := HZ.out.setPos ql qc
        refine ⟨i + 1, acc, s'.extract (1) s'.size, _, by rw [HSZ.out]; omega, rfl, rfl, hs.lt, by omega, qh HSD.out, qh ?_, qh (by rw [HQ.out]; exact hs.pos), qh hs.bel, qh HNX.out⟩
        exact hs.own
       case measure => (show strLen _ < strLen _); simp only [strLen]; rw [HSZ.out]; omega
    ·have hsl := fun w => run_slice_string_h (P := Tryz.prog) (w := w) (t := 9) (s := s') Tryz.underlying9 .i64 1 (by omega) (by omega)
     have hsl2 := fun w => run_slice_string_l (P := Tryz.prog) (w := w) (t := 9) (s := s') Tryz.underlying9 .i64 1 (by omega) (by omega)
     rw [show (1 : Int).toNat = 1 from rfl] at hsl hsl2
     obtain ⟨ql, qc, hq⟩ : ∃ a b, at_ src (i + 1) = (a, b) := ⟨_, _, rfl⟩
     have bh := fun w => beh_at (q := at_ src (i + 1)) (s'.extract 0 (1)) (HAT.out i).1 (by rw [take_data, HSR.out]; exact at_add src i _) (by simp; omega) w
     rw [hp, hq] at bh
     have BH := qh bh
     obtain ⟨m0, m1, f0, f1⟩ := HZ.out.facts
     have HZ := qh HZ.out.drew
     have HSD := qh (show (s'.extract (1) s'.size).data.toList = src.drop (i + 1) by rw [ByteArray.data_extract, Array.toList_extract, List.extract_eq_take_drop, HSR.out, List.drop_drop, List.take_of_length_le (by rw [List.length_drop]; omega)])
     have HSZ := qh (show (s'.extract (1) s'.size).size = s'.size - (1) by simp)
     have HQ := qh hq
     clear bh hq
     go_wp2
     go_region_law (first
      | (go_simp; go_at_call 24; (with_reducible refine (BH.out _).mono ?_); rintro e x ⟨rfl, hb⟩; have HZ := qh (HZ.out.below hb); clear hb; obtain ⟨m0, m1, f0, f1⟩ := HZ.out.facts))
     all_goals
      go_wp2
      go_roundw
      case rel =>
       have hs := HZ.out.setPos ql qc
       refine ⟨i + 1, acc, s'.extract (1) s'.size, _, by rw [HSZ.out]; omega, rfl, rfl, hs.lt, by omega, qh HSD.out, qh ?_, qh (by rw [HQ.out]; exact hs.pos), qh hs.bel, qh HNX.out⟩
       exact hs.own
      case measure => (show strLen _ < strLen _); simp only [strLen]; rw [HSZ.out]; omega
   ·have h4 : e9 = false ∧ e10 = false ∧ e13 = false ∧ e32 = false := by
     rw [hB] at hb
     revert hb
     cases e9 <;> cases e10 <;> cases e13 <;> cases e32 <;> simp
    obtain ⟨rfl, rfl, rfl, rfl⟩ := h4
    have HB := qh hb
    clear hB hb
    by_cases h2 : (src.drop i).take 2 = [40, 42]
    ·have hsz2 : (2 : Int) ≤ (s'.size : Int) := by
      have := congrArg List.length h2
      rw [List.length_take, List.length_drop] at this
      simp at this; omega
     have hsb : ((s'.extract 0 2).toList == [40, 42]) = true := by rw [ext_front, HSR.out, h2]; rfl
     have hci : item (src.drop i) = if cmt 0 0 (src.drop i) = 0 then .bad 43 else .blank (cmt 0 0 (src.drop i)) := by
      unfold item; rw [HH.out, Option.getD_some, if_neg HB.out, if_pos h2]
     have CM := qh (fun w => comment_any s' (by omega) w)
     rw [HSR.out] at CM
     clear h2
     generalize cmt 0 0 (src.drop i) = n at *
     obtain ⟨m0, m1, f0, f1⟩ := HZ.out.facts
     go_wp2_with fail
     ((with_reducible refine (CM.out _).mono ?_); rintro e w1 ⟨rfl, rfl⟩)
     by_cases hn : n = 0
     ·subst hn
      rw [if_pos rfl] at hci
      have HF := qh (show scanL src = .error (i, 43) by rw [HSC.out, scanAt_bad hil hci]; rfl)
      have HP := qh hp
      clear hci HSC CM HH HB hp
      go_wp2_with fail
      ((with_reducible refine (PC.out _).mono ?_); rintro e w1 ⟨rfl, hb⟩)
      have HE := qh (HZ.out.below hb).bel
      clear hb
      go_wp2
      go_ret3
      rw [HF.out]
      refine ⟨?_, HE.out⟩
      rw [HP.out]
      rfl
     ·rw [if_neg hn] at hci
      have HNX := qh (show scanL src = (scanAt src (i + n)).map (acc ++ ·) by rw [HSC.out, scanAt_blank hil hci])
      have hnb := (item_in hil).1 n hci
      have hn1 : (n : Int) ≤ (s'.size : Int) := by omega
      have hn0 : ((n : Int) == 0) = false := by simp only [beq_eq_false_iff_ne, ne_eq]; omega
      clear hci HSC CM HH HB hn m0 m1 f0 f1
      have hsl := fun w => run_slice_string_h (P := Tryz.prog) (w := w) (t := 9) (s := s') Tryz.underlying9 .i64 (n : Int) (by omega) (by omega)
      have hsl2 := fun w => run_slice_string_l (P := Tryz.prog) (w := w) (t := 9) (s := s') Tryz.underlying9 .i64 (n : Int) (by omega) (by omega)
      simp only [Int.toNat_natCast] at hsl hsl2
      obtain ⟨ql, qc, hq⟩ : ∃ a b, at_ src (i + n) = (a, b) := ⟨_, _, rfl⟩
      have bh := fun w => beh_at (q := at_ src (i + n)) (s'.extract 0 (n)) (HAT.out i).1 (by rw [take_data, HSR.out]; exact at_add src i _) (by simp; omega) w
      rw [hp, hq] at bh
      have BH := qh bh
      obtain ⟨m0, m1, f0, f1⟩ := HZ.out.facts
      have HZ := qh HZ.out.drew
      have HSD := qh (show (s'.extract (n) s'.size).data.toList = src.drop (i + n) by rw [ByteArray.data_extract, Array.toList_extract, List.extract_eq_take_drop, HSR.out, List.drop_drop, List.take_of_length_le (by rw [List.length_drop]; omega)])
      have HSZ := qh (show (s'.extract (n) s'.size).size = s'.size - (n) by simp)
      have HQ := qh hq
      clear bh hq
      go_wp2
      go_region_law (first
       | (go_simp; go_at_call 24; (with_reducible refine (BH.out _).mono ?_); rintro e x ⟨rfl, hb⟩; have HZ := qh (HZ.out.below hb); clear hb; obtain ⟨m0, m1, f0, f1⟩ := HZ.out.facts))
      all_goals
       go_wp2
       go_roundw
       case rel =>
        have hs := HZ.out.setPos ql qc
        refine ⟨i + n, acc, s'.extract (n) s'.size, _, by rw [HSZ.out]; omega, rfl, rfl, hs.lt, by omega, qh HSD.out, qh ?_, qh (by rw [HQ.out]; exact hs.pos), qh hs.bel, qh HNX.out⟩
        exact hs.own
       case measure => (show strLen _ < strLen _); simp only [strLen]; rw [HSZ.out]; omega
    ·have hsb : (s'.size < 2 ∨ ((s'.extract 0 2).toList == [40, 42]) = false) := by
      right; rw [ext_front, HSR.out]; simpa using h2
     have hci : item (src.drop i) = match oneN s'.data.toList with | .error e => .bad e | .ok (t, n) => .tok t n := by
      unfold item; rw [HH.out, Option.getD_some, if_neg HB.out, if_neg h2, HSR.out] <;> (cases oneN _ <;> rfl)
     have HCI := qh hci
     obtain ⟨m0, m1, f0, f1⟩ := HZ.out.facts
     clear hci h2 HB HH
     rcases Nat.lt_or_ge s'.size 2 with hsz | hsz
     case' inl =>
      have hz2 : ¬ (2 : Int) ≤ (s'.size : Int) := by omega
      have hz3 : decide ((2 : Int) ≤ (s'.size : Int)) = false := by simp; omega
      clear hsb hsz
      go_wp2_with fail
     case' inr =>
      have hz2 : (2 : Int) ≤ (s'.size : Int) := by omega
      have hz3 : decide ((2 : Int) ≤ (s'.size : Int)) = true := by simp; omega
      have hsb := hsb.resolve_left (by omega)
      clear hsz
      go_wp2_with fail
     all_goals
      ((with_reducible refine (One_any s' h0 (by omega) _).mono ?_); rintro e w1 ⟨he, hb⟩)
      have HZ := qh (HZ.out.below hb)
      have hlt2 := HZ.out.lt
      clear hb m0 m1 f0 f1
      obtain ⟨m0, m1, f0, f1⟩ := HZ.out.facts
      rcases hone : oneN s'.data.toList with k | ⟨⟨tk, tt, tn⟩, n⟩
      ·rw [hone] at he
       have hci := HCI.out
       rw [hone] at hci
       have hk := oneN_err _ _ hone
       have HF := qh (show scanL src = .error (i, k) by rw [HSC.out, scanAt_bad hil hci]; rfl)
       have hk0 : ((k : Int) == 0) = false := by simp only [beq_eq_false_iff_ne, ne_eq]; omega
       have hk1 : ((k : Int) != 0) = true := ne_of_eq hk0
       have HP := qh hp
       unfold oneEnd at he
       subst he
       clear hci HSC HCI hone hk hp
       simp only [Tk.val, Tk.vals, noTk, C, fl_0]
       go_wp2_with fail
       ((with_reducible refine (PC.out _).mono ?_); rintro e w2 ⟨rfl, hb⟩)
       have HE := qh ((HZ.out.tok (.int .u8 0) (.complex .f64 0 0) (.complex .f64 0 0) (.string ⟨#[]⟩) (.int .i64 0)).below hb).bel
       clear hb
       go_wp2
       go_ret3
       rw [HF.out]
       refine ⟨?_, HE.out⟩
       rw [HP.out]
       rfl
      ·rw [hone] at he
       have hci := HCI.out
       rw [hone] at hci
       have HNX := qh (show scanL src = (scanAt src (i + n)).map ((acc ++ [(⟨tk, tt, tn⟩, i, i + n)]) ++ ·) by
        rw [HSC.out, scanAt_tok hil hci, map_map_e]; congr 1; funext x; simp)
       have hnb := (item_in hil).2 _ n hci
       have hn1 : (n : Int) ≤ (s'.size : Int) := by omega
       unfold oneEnd at he
       subst he
       clear hci HSC HCI hone
       simp only [Tk.val, Tk.vals, C, fl_0]
       have HR := qh (HZ.out.tok (.int .u8 tk) (.complex .f64 0 0) (.complex .f64 0 0) (.string tt) (.int .i64 tn))
       clear HZ
       go_wp2_with fail
       ((with_reducible refine (PC.out _).mono ?_); rintro e w2 ⟨rfl, hb⟩)
       have hr := HR.out.below hb
       clear m0 m1 f0 f1 hb
       obtain ⟨m0, m1, f0, f1⟩ := hr.facts
       obtain ⟨c0, c1, c2, c3, c4, g0, g1, g2, g3, g4⟩ := hr.tok.tok
       have HR := qh (hr.set1 (.complex .f64 (fl pl) (fl pc)))
       clear hr
       go_wp2
       generalize w2.setCell ⟨w1.heap.size, 1, none⟩ (.complex .f64 (fl pl) (fl pc)) = w3 at *
       clear m0 m1 f0 f1 c0 c1 c2 c3 c4 g0 g1 g2 g3 g4
       obtain ⟨m0, m1, f0, f1⟩ := HR.out.facts
       obtain ⟨c0, c1, c2, c3, c4, g0, g1, g2, g3, g4⟩ := HR.out.tok.tok
       have hsl := fun w => run_slice_string_h (P := Tryz.prog) (w := w) (t := 9) (s := s') Tryz.underlying9 .i64 (n : Int) (by omega) (by omega)
       simp only [Int.toNat_natCast] at hsl
       obtain ⟨ql, qc, hq⟩ : ∃ a b, at_ src (i + n) = (a, b) := ⟨_, _, rfl⟩
       have bh := fun w => beh_at (q := at_ src (i + n)) (s'.extract 0 n) (HAT.out i).1 (by rw [take_data, HSR.out]; exact at_add src i _) (by simp; omega) w
       have PQ := qh (fun w => pos_at (HAT.out (i + n)).1 w)
       rw [hp, hq] at bh
       rw [hq] at PQ
       have BH := qh bh
       have HV := qh (show Tok.vals src (⟨tk, tt, tn⟩, i, i + n) = [.int .u8 tk, .complex .f64 (fl pl) (fl pc), .complex .f64 (fl ql) (fl qc), .string tt, .int .i64 tn] by simp only [Tok.vals, hp, hq]; rfl)
       have HR := qh HR.out.drew
       clear bh hq
       go_region_law (first
        | (go_simp; go_at_call 24; (with_reducible refine (BH.out _).mono ?_); rintro e x ⟨rfl, hb⟩; have HR := qh (HR.out.below hb); clear hb; obtain ⟨m0, m1, f0, f1⟩ := HR.out.facts; obtain ⟨c0, c1, c2, c3, c4, g0, g1, g2, g3, g4⟩ := HR.out.tok.tok)
        | (go_simp; go_at_call 16; (with_reducible refine (PQ.out _).mono ?_); rintro e x ⟨rfl, hb⟩; have HR := qh (HR.out.below hb); clear hb; obtain ⟨m0, m1, f0, f1⟩ := HR.out.facts; obtain ⟨c0, c1, c2, c3, c4, g0, g1, g2, g3, g4⟩ := HR.out.tok.tok))
       all_goals
        clear hsl
        have HR := qh (HR.out.set2 (.complex .f64 (fl ql) (fl qc)))
        generalize x.setCell ⟨w1.heap.size, 2, none⟩ (.complex .f64 (fl ql) (fl qc)) = w4 at *
        obtain ⟨m0, m1, f0, f1⟩ := HR.out.facts
        obtain ⟨c0, c1, c2, c3, c4, g0, g1, g2, g3, g4⟩ := HR.out.tok.tok
        obtain ⟨i0, hi0, hz0, hz1, hz2⟩ := info_parts info40
        have hacn : acc.length ≤ 1000000 := by omega
        have Q := app_facts HR.out.toPS hacn #[.int .u8 tk, .complex .f64 (fl pl) (fl pc), .complex .f64 (fl ql) (fl qc), .string tt, .int .i64 tn] rfl
        go_wp2_with (at_builtin; refine wpList_append_lies _ rfl _ _ _ rfl (w.heap.size + 1) 40 i0 _ 5 64 Tryz.underlying28 hi0 hz0 hz1 hz2 rfl (by omega) lv acc.length (flat src acc) rfl Q.out.2.2.2.2 ⟨w4.heap.size, 0, none⟩ 1 1 [.int .u8 tk, .complex .f64 (fl pl) (fl pc), .complex .f64 (fl ql) (fl qc), .string tt, .int .i64 tn] rfl rfl Q.out.1 Q.out.2.1 (by omega) Q.out.2.2.1 (by omega) Q.out.2.2.2.1 (w4.heap.size + 1) (by simp) ?_; intro g' cap w5 hown1 hgrow hor hlt5; have HZ := qh (PS.appended HR.out.toPS hown1 hgrow); clear hown1 hgrow hor hlt5)
        clear m0 m1 f0 f1 c0 c1 c2 c3 c4 g0 g1 g2 g3 g4 Q hi0 hz0 hz1 hz2
        have hsl := fun w => run_slice_string_h (P := Tryz.prog) (w := w) (t := 9) (s := s') Tryz.underlying9 .i64 (n : Int) (by omega) (by omega)
        have hsl2 := fun w => run_slice_string_l (P := Tryz.prog) (w := w) (t := 9) (s := s') Tryz.underlying9 .i64 (n : Int) (by omega) (by omega)
        simp only [Int.toNat_natCast] at hsl hsl2
        obtain ⟨ql, qc, hq⟩ : ∃ a b, at_ src (i + n) = (a, b) := ⟨_, _, rfl⟩
        have bh := fun w => beh_at (q := at_ src (i + n)) (s'.extract 0 (n)) (HAT.out i).1 (by rw [take_data, HSR.out]; exact at_add src i _) (by simp; omega) w
        rw [hp, hq] at bh
        have BH := qh bh
        obtain ⟨m0, m1, f0, f1⟩ := HZ.out.facts
        have HZ := qh HZ.out.drew
        have HSD := qh (show (s'.extract (n) s'.size).data.toList = src.drop (i + n) by rw [ByteArray.data_extract, Array.toList_extract, List.extract_eq_take_drop, HSR.out, List.drop_drop, List.take_of_length_le (by rw [List.length_drop]; omega)])
        have HSZ := qh (show (s'.extract (n) s'.size).size = s'.size - (n) by simp)
        have HQ := qh hq
        clear bh hq
        go_wp2
        go_region_law (first
         | (go_simp; go_at_call 24; (with_reducible refine (BH.out _).mono ?_); rintro e x ⟨rfl, hb⟩; have HZ := qh (HZ.out.below hb); clear hb; obtain ⟨m0, m1, f0, f1⟩ := HZ.out.facts))
        all_goals
         go_wp2
         go_roundw
         case rel =>
          have hs := HZ.out.setPos ql qc
          refine ⟨i + n, acc ++ [(⟨tk, tt, tn⟩, i, i + n)], s'.extract (n) s'.size, _, by rw [HSZ.out]; omega, rfl, rfl, hs.lt, by rw [List.length_append]; simp only [List.length_singleton]; omega, qh HSD.out, qh ?_, qh (by rw [HQ.out]; exact hs.pos), qh hs.bel, qh HNX.out⟩
          rw [flat_snoc, HV.out, List.length_append]; exact hs.own
         case measure => (show strLen _ < strLen _); simp only [strLen]; rw [HSZ.out]; omega
end Go.Proofs.YtkemhmfdooghkaaGreatDoor.Lx
namespace Go.Proofs.YtkemhmfdooghkaaGreatDoor.Lx
open Go.RowKit
open Pl Fl
theorem runN_app (p : UInt8 → Bool) (hp : p 32 = false) (r : List UInt8) : ∀ s : List UInt8, runN p (s ++ 32 :: r) = runN p s
 | [] => by rw [List.nil_append, runN_no hp, runN_nil]
 | c :: s => by
   rw [List.cons_append]
   cases h : p c
   ·rw [runN_no h, runN_no h]
   ·rw [runN_yes h, runN_yes h, runN_app p hp r s]
theorem runN_app' (p : UInt8 → Bool) (r : List UInt8) : ∀ s : List UInt8, runN p s < s.length → runN p (s ++ r) = runN p s
 | [], h => by simp [runN_nil] at h
 | c :: s, h => by
   rw [List.cons_append]
   cases hc : p c
   ·rw [runN_no hc, runN_no hc]
   ·rw [runN_yes hc] at h ⊢
    rw [runN_yes hc, runN_app' p r s (by simp only [List.length_cons] at h; omega)]
theorem cmt_app (r : List UInt8) : ∀ (m : Nat) (d : Int) (i : Nat) (s : List UInt8), s.length ≤ m → cmt d i s ≠ 0 → cmt d i (s ++ r) = cmt d i s := by
 intro m
 induction m with
 | zero => intro d i s h; have : s = [] := List.length_eq_zero_iff.1 (by omega); subst this; intro h; exact absurd rfl h
 | succ m ih =>
   intro d i s h hc
   rcases s with _ | ⟨a, _ | ⟨b, t⟩⟩
   ·exact absurd rfl hc
   ·exact absurd rfl hc
   ·simp only [List.length_cons] at h
    rw [List.cons_append, List.cons_append]
    unfold cmt at hc ⊢
    split
    ·rename_i h1
     rw [if_pos h1] at hc
     exact ih _ _ _ (by omega) hc
    ·rename_i h1
     rw [if_neg h1] at hc
     split
     ·rename_i h2
      rw [if_pos h2] at hc
      split
      ·rfl
      ·rename_i h3
       rw [if_neg h3] at hc
       exact ih _ _ _ (by omega) hc
     ·rename_i h2
      rw [if_neg h2] at hc
      exact ih d (i + 1) (b :: t) (by simp only [List.length_cons]; omega) hc
theorem head_app {s r : List UInt8} (hs : s ≠ []) : (s ++ r).head? = s.head? := by cases s <;> simp_all
theorem take2_app {s r : List UInt8} (hs : s ≠ []) (x : List UInt8) (hx : x.length = 2) (hb : x[1]? ≠ some 32) : ((s ++ 32 :: r).take 2 = x) = (s.take 2 = x) := by
 rcases s with _ | ⟨a, _ | ⟨b, t⟩⟩
 ·exact absurd rfl hs
 ·apply propext
  constructor
  ·intro h
   subst h
   simp at hb
  ·intro h
   subst h
   simp at hx
 ·rfl
theorem oneN_app {s : List UInt8} (hs : s ≠ []) {t : Tk} {n : Nat} (h : oneN s = .ok (t, n)) (r : List UInt8) : oneN (s ++ 32 :: r) = .ok (t, n) := by
 have hbd := oneN_bd s hs t n h
 have htk : ∀ m, m ≤ s.length → (s ++ 32 :: r).take m = s.take m := fun m hm => List.take_append_of_le_length hm
 unfold oneN at h ⊢
 rw [head_app hs]
 dsimp only at h ⊢
 by_cases h1 : isL (s.head?.getD 0) = true
 ·rw [if_pos h1] at h ⊢
  rw [runN_app isP rfl, htk _ (runN_le isP s)]
  exact h
 rw [if_neg h1] at h ⊢
 by_cases h2 : isD (s.head?.getD 0) = true
 ·rw [if_pos h2] at h ⊢
  rw [runN_app isX rfl]
  have hle := runN_le isX s
  have h72 : ((s ++ 32 :: r)[runN isX s]? = some 72) = (s[runN isX s]? = some 72) := by
   rcases Nat.lt_or_ge (runN isX s) s.length with hlt | hge
   ·rw [List.getElem?_append_left hlt]
   ·have he : runN isX s = s.length := by omega
    rw [he, List.getElem?_append_right (Nat.le_refl _), Nat.sub_self, List.getElem?_eq_none (Nat.le_refl _)]
    simp
  have hn : (if (s ++ 32 :: r)[runN isX s]? = some 72 then runN isX s + 1 else runN isX s) = (if s[runN isX s]? = some 72 then runN isX s + 1 else runN isX s) := by
   by_cases h3 : s[runN isX s]? = some 72
   ·rw [if_pos h3, if_pos (by rw [h72]; exact h3)]
   ·rw [if_neg h3, if_neg (by rw [h72]; exact h3)]
  rw [hn, htk]
  ·exact h
  ·by_cases h3 : s[runN isX s]? = some 72
   ·rw [if_pos h3]
    obtain ⟨h5, _⟩ := List.getElem?_eq_some_iff.1 h3
    omega
   ·rw [if_neg h3]; exact hle
 rw [if_neg h2] at h ⊢
 by_cases h3 : s.head?.getD 0 = 34 ∨ s.head?.getD 0 = 39
 ·rw [if_pos h3] at h ⊢
  have hta : (s ++ 32 :: r).tail = s.tail ++ 32 :: r := by cases s <;> simp_all
  rw [hta]
  have htl : s.tail.length = s.length - 1 := List.length_tail
  split at h
  ·cases h
  ·rename_i h4
   have h5 : 1 + runN (fun x => x != s.head?.getD 0 && x != 10) s.tail < s.length := by
    rcases Nat.lt_or_ge (1 + runN (fun x => x != s.head?.getD 0 && x != 10) s.tail) s.length with hlt | hge
    ·exact hlt
    ·exact absurd (.inl (List.getElem?_eq_none hge)) h4
   rw [runN_app' _ _ _ (by omega)]
   rw [List.getElem?_append_left h5, if_neg h4, htk _ (by omega)]
   exact h
 rw [if_neg h3] at h ⊢
 have hsym : symN (s ++ 32 :: r) = symN s := by
  unfold symN
  rw [head_app hs]
  have : (twos.any fun x => x.data.toList == (s ++ 32 :: r).take 2) = (twos.any fun x => x.data.toList == s.take 2) := by
   rw [Bool.eq_iff_iff]
   simp only [List.any_eq_true, beq_iff_eq]
   have hx : ∀ x ∈ twos, x.data.toList.length = 2 ∧ x.data.toList[1]? ≠ some 32 := by decide
   constructor
   ·rintro ⟨x, hm, e⟩
    exact ⟨x, hm, ((take2_app hs _ (hx x hm).1 (hx x hm).2) ▸ e.symm : s.take 2 = x.data.toList).symm⟩
   ·rintro ⟨x, hm, e⟩
    exact ⟨x, hm, ((take2_app hs _ (hx x hm).1 (hx x hm).2).symm ▸ e.symm : (s ++ 32 :: r).take 2 = x.data.toList).symm⟩
  rw [this]
 rw [hsym]
 split at h
 ·cases h
 ·rename_i h4
  rw [if_neg h4, htk _ (symN_le s hs)]
  exact h
theorem item_app {s : List UInt8} (hs : s ≠ []) (hb : ∀ k, item s ≠ .bad k) (r : List UInt8) : item (s ++ 32 :: r) = item s := by
 unfold item at hb ⊢
 rw [head_app hs]
 have e2 := take2_app (r := r) hs [40, 42] rfl (by simp)
 by_cases h1 : isB (s.head?.getD 0) = true
 ·rw [if_pos h1, if_pos h1]
 rw [if_neg h1] at hb ⊢
 rw [if_neg h1]
 by_cases h2 : s.take 2 = [40, 42]
 ·rw [if_pos h2] at hb
  rw [if_pos h2, if_pos (e2.symm ▸ h2)]
  have hc : cmt 0 0 s ≠ 0 := fun e => by rw [if_pos e] at hb; exact hb _ rfl
  rw [cmt_app _ _ _ _ _ (Nat.le_refl _) hc]
 ·rw [if_neg h2] at hb
  rw [if_neg h2, if_neg (fun e => h2 (e2 ▸ e))]
  cases h3 : oneN s with
  | error k => rw [h3] at hb; exact absurd rfl (hb k)
  | ok x =>
    obtain ⟨t, n⟩ := x
    rw [oneN_app hs h3]
def lexF : Nat → List UInt8 → Option (List Tk)
 | 0, _ => none
 | f + 1, s => if s = [] then some [] else match item s with
   | .bad _ => none
   | .blank n => lexF f (s.drop n)
   | .tok t n => (lexF f (s.drop n)).map (t :: ·)
def lex (s : List UInt8) : Option (List Tk) := lexF (s.length + 1) s
theorem lexF_fuel : ∀ (m : Nat) (s : List UInt8) (f g : Nat), s.length ≤ m → s.length < f → s.length < g → lexF f s = lexF g s := by
 intro m
 induction m with
 | zero =>
   intro s f g hm hf hg
   have : s = [] := List.length_eq_zero_iff.1 (by omega)
   subst this
   rcases f with _ | f
   ·simp at hf
   rcases g with _ | g
   ·simp at hg
   rfl
 | succ m ih =>
   intro s f g hm hf hg
   rcases f with _ | f
   ·omega
   rcases g with _ | g
   ·omega
   unfold lexF
   by_cases hs : s = []
   ·rw [if_pos hs, if_pos hs]
   ·rw [if_neg hs, if_neg hs]
    obtain ⟨h1, h2⟩ := item_bd s hs
    cases h : item s with
    | bad k => rfl
    | blank n =>
      have := h1 n h
      exact ih _ _ _ (by rw [List.length_drop]; omega) (by rw [List.length_drop]; omega) (by rw [List.length_drop]; omega)
    | tok t n =>
      have := h2 t n h
      dsimp only
      rw [ih (s.drop n) f g (by rw [List.length_drop]; omega) (by rw [List.length_drop]; omega) (by rw [List.length_drop]; omega)]
theorem lex_nil : lex [] = some [] := rfl
theorem lex_step {s : List UInt8} (hs : s ≠ []) : lex s = match item s with
 | .bad _ => none
 | .blank n => lex (s.drop n)
 | .tok t n => (lex (s.drop n)).map (t :: ·) := by
 obtain ⟨h1, h2⟩ := item_bd s hs
 unfold lex
 rw [lexF, if_neg hs]
 cases h : item s with
 | bad k => rfl
 | blank n =>
   have := h1 n h
   exact lexF_fuel _ _ _ _ (Nat.le_refl _) (by rw [List.length_drop]; omega) (by omega)
 | tok t n =>
   have := h2 t n h
   dsimp only
   rw [lexF_fuel _ (s.drop n) s.length ((s.drop n).length + 1) (Nat.le_refl _) (by rw [List.length_drop]; omega) (by omega)]
theorem lex_blank {s : List UInt8} (hs : s ≠ []) {n : Nat} (h : item s = .blank n) : lex s = lex (s.drop n) := by rw [lex_step hs, h]
theorem lex_tok {s : List UInt8} (hs : s ≠ []) {t : Tk} {n : Nat} (h : item s = .tok t n) : lex s = (lex (s.drop n)).map (t :: ·) := by rw [lex_step hs, h]
theorem lex_sp (r : List UInt8) : lex (32 :: r) = lex r := by rw [lex_blank (s := 32 :: r) (n := 1) (by simp) (by rfl)]; rfl
theorem lex_app (r : List UInt8) : ∀ (m : Nat) (s : List UInt8) (l : List Tk), s.length ≤ m → lex s = some l → lex (s ++ 32 :: r) = (lex r).map (l ++ ·) := by
 intro m
 induction m with
 | zero =>
   intro s l hm h
   have : s = [] := List.length_eq_zero_iff.1 (by omega)
   subst this
   cases h
   rw [List.nil_append, lex_sp]
   all_goals (cases lex r <;> rfl)
 | succ m ih =>
   intro s l hm h
   by_cases hs : s = []
   ·subst hs
    cases h
    rw [List.nil_append, lex_sp]
    all_goals (cases lex r <;> rfl)
   ·obtain ⟨h1, h2⟩ := item_bd s hs
    have hne : s ++ 32 :: r ≠ [] := by simp
    have hb : ∀ k, item s ≠ .bad k := fun k e => by rw [lex_step hs, e] at h; cases h
    have hi := item_app hs hb r
    cases e : item s with
    | bad k => exact absurd e (hb k)
    | blank n =>
      have := h1 n e
      rw [lex_blank hs e] at h
      rw [lex_blank hne (hi.trans e), List.drop_append_of_le_length this.2]
      exact ih _ l (by rw [List.length_drop]; omega) h
    | tok t n =>
      have := h2 t n e
      rw [lex_tok hs e] at h
      rw [lex_tok hne (hi.trans e), List.drop_append_of_le_length this.2]
      cases e2 : lex (s.drop n) with
      | none => rw [e2] at h; cases h
      | some l2 =>
        rw [e2] at h
        cases h
        rw [ih _ l2 (by rw [List.length_drop]; omega) e2]
        all_goals (cases lex r <;> rfl)
theorem scan_lexF : ∀ (f i : Nat) (s : List UInt8), s.length < f → lexF f s = match scanF f i s with
 | .error _ => none
 | .ok l => some (l.dropLast.map (·.1)) := by
 intro f
 induction f with
 | zero => intro i s h; omega
 | succ f ih =>
   intro i s h
   unfold lexF scanF
   by_cases hs : s = []
   ·rw [if_pos hs, if_pos hs]; rfl
   ·rw [if_neg hs, if_neg hs]
    obtain ⟨h1, h2⟩ := item_bd s hs
    cases e : item s with
    | bad k => rfl
    | blank n =>
      have := h1 n e
      exact ih _ _ (by rw [List.length_drop]; omega)
    | tok t n =>
      have := h2 t n e
      dsimp only
      rw [ih (i + n) (s.drop n) (by rw [List.length_drop]; omega)]
      cases e2 : scanF f (i + n) (s.drop n) with
      | error k => rfl
      | ok l =>
        rcases l with _ | ⟨x, l⟩
        ·exfalso
         have hne : ∀ (f i : Nat) (s : List UInt8), scanF f i s ≠ .ok [] := by
          intro f
          induction f with
          | zero => intro i s; simp [scanF]
          | succ f ih =>
            intro i s
            unfold scanF
            split
            ·simp
            ·split
             ·simp
             ·exact ih _ _
             ·rename_i t n _
              intro e
              cases e3 : scanF f (i + n) (s.drop n) with
              | error k => rw [e3] at e; cases e
              | ok l => rw [e3] at e; injection e with e; cases e
         exact hne _ _ _ e2
        ·rfl
theorem scan_lex {s : List UInt8} (h : s.length ≤ 16384) : lex s = match scanL s with
 | .error _ => none
 | .ok l => some (l.dropLast.map (·.1)) := by
 unfold scanL
 rw [if_neg (by omega)]
 exact scan_lexF _ _ _ (by omega)
end Go.Proofs.YtkemhmfdooghkaaGreatDoor.Lx
