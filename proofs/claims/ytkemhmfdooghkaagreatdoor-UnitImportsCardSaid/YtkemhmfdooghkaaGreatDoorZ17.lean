/- A part of the proof: R11, E28. -/
import Derived.Test.YtkemhmfdooghkaaGreatDoorZ1
import Derived.Test.YtkemhmfdooghkaaGreatDoorZ4
import Derived.Test.YtkemhmfdooghkaaGreatDoorZ16
import Derived.Test.YtkemhmfdooghkaaGreatDoorZ6
set_option linter.unusedSimpArgs false
set_option linter.unusedVariables false

section
namespace Go.Proofs.YtkemhmfdooghkaaGreatDoor.Lx
open Go.RowKit
open Pl Fl
attribute [local go_sem] run_store_complexL
attribute [local go_sem ↓] Go.wp_at_zero Go.wp_at_succ
set_option maxRecDepth 100000 in set_option maxHeartbeats 6400000 in
theorem rScan_any (s : ByteArray) (hs : s.size ≤ 9223372036854775800) (w : World) :
 Calls Tryz.prog 11 #[.string s] w fun e w' => scanEnd w s.data.toList (scanL s.data.toList) e w' := by
 have hal : w.heap.size < (w.alloc (.cells #[.int .i64 1, .int .i64 1] 56)).heap.size := by rw [World.size_alloc]; exact Nat.lt_succ_self _
 have hab : Below w.heap.size w (w.alloc (.cells #[.int .i64 1, .int .i64 1] 56)) := (Below.refl w.heap.size w).alloc (Nat.le_refl _) _
 by_cases hbig : 16384 < s.size
 ·have HS := qh (show scanL s.data.toList = .error (0, 5) by unfold scanL; rw [if_pos (by simpa using hbig)])
  have hbig' : (16384 : Int) < (s.size : Int) := by omega
  have HAB := qh hab
  have HAL := qh hal
  clear hab hal
  go_enter Tryz.func11, Tryz.ntmps11
  go_wp2_with fail
  ((with_reducible refine (pos_one _).mono ?_); rintro e w1 ⟨rfl, hb⟩)
  have hb1 : Below w.heap.size w w1 := HAB.out.trans (hb.mono (Nat.le_of_lt HAL.out))
  go_wp2
  go_ret3
  rw [HS.out]
  exact ⟨rfl, hb1⟩
 have hbig' : ¬ (16384 : Int) < (s.size : Int) := by omega
 obtain ⟨src, hsrc⟩ : ∃ src, src = s.data.toList := ⟨_, rfl⟩
 have hsl0 : src.length = s.size := by rw [hsrc]; simp
 have HS := qh (show scanL src = scanAt src 0 by rw [scanL_eq, if_neg (by omega)])
 have hs16 : s.size ≤ 16384 := by omega
 have HAT := qh (at_is src (by omega))
 have HSRC := qh hsrc
 have HAB := qh hab
 have HBK0 := qh (show Blk (w.alloc (.cells #[.int .i64 1, .int .i64 1] 56)) w.heap.size 56 #[.int .i64 (at_ src 0).1, .int .i64 (at_ src 0).2] from Blk.new _ _ _)
 rw [← hsrc]
 clear hab hsrc
 go_enter Tryz.func11, Tryz.ntmps11
 go_wp2_with fail
 clear hbig hbig'
 go_loopw [0, 6] (fun sv av wr => ∃ (i : Nat) (acc : List Tok) (s' : ByteArray) (lv : Value), i + s'.size = s.size ∧ sv = .string s' ∧ lv = av ∧ w.heap.size < wr.heap.size ∧ acc.length ≤ i ∧ Hid (s'.data.toList = src.drop i) ∧ Hid (wr.ownsRow (w.heap.size + 1) 40 5 lv acc.length (flat src acc)) ∧ Hid (Blk wr w.heap.size 56 #[.int .i64 (at_ src i).1, .int .i64 (at_ src i).2]) ∧ Hid (Below w.heap.size w wr) ∧ Hid (scanL src = (scanAt src i).map (acc ++ ·))) (fun sv _ _ => strLen sv)
 case atStart =>
  refine ⟨0, [], s, _, by omega, rfl, rfl, hal, Nat.le_refl _, qh (by rw [HSRC.out]; rfl), qh ⟨rfl, .inl ⟨rfl, rfl⟩⟩, HBK0, HAB, qh ?_⟩
  rw [HS.out]
  all_goals (cases scanAt src 0 <;> rfl)
 case round =>
  obtain ⟨i, acc, s', lv, hi, rfl, rfl, hlt0, hacc, HSR, HO, HBK, HBL, HSC⟩ := hrel
  clear hal HBK0 HAB
  rcases Nat.eq_zero_or_pos s'.size with h0 | h0
  ·have hii : src.length ≤ i := by omega
   have hre : s'.toList.isEmpty = true := by rw [ByteArray.toList_eq, List.isEmpty_iff, empty_iff]; exact h0
   have hre2 : s'.toList = [] := by rw [ByteArray.toList_eq, empty_iff]; exact h0
   obtain ⟨pl, pc, hp⟩ : ∃ a b, at_ src i = (a, b) := ⟨_, _, rfl⟩
   have HF := qh (show scanL src = .ok (acc ++ [(noTk, i, i)]) by rw [HSC.out, scanAt_end hii]; rfl)
   have HV := qh (show flat src (acc ++ [(noTk, i, i)]) = flat src acc ++ [.int .u8 0, .complex .f64 (fl pl) (fl pc), .complex .f64 (fl pl) (fl pc), .string ⟨#[]⟩, .int .i64 0] by rw [flat_snoc]; simp only [Tok.vals, hp]; rfl)
   have PC := qh (fun w => pos_at (HAT.out i).1 w)
   have hz : PS w wr (at_ src i).1 (at_ src i).2 lv acc.length (flat src acc) := ⟨HBK.out, HO.out, HBL.out⟩
   rw [hp] at PC hz
   have HZ := qh hz.drew
   have haccn : acc.length ≤ 1000000 := by omega
   obtain ⟨m0, m1, f0, f1⟩ := hz.facts
   obtain ⟨i0, hi, hz0, hz1, hz2⟩ := info_parts info40
   clear hp hz HSC HBK HO HBL HS HSR HSRC HAT
   generalize hln : acc.length = an at *
   generalize hfl : flat src acc = xs at *
   have HLN := qh hln
   clear hfl hln
   go_wp2
   go_region_law (first
    | (go_simp; go_at_call 16; (with_reducible refine (PC.out _).mono ?_); rintro e x ⟨rfl, hb⟩; have HZ := qh (HZ.out.below hb); clear hb; obtain ⟨m0, m1, f0, f1⟩ := HZ.out.facts; have Q := app_facts HZ.out haccn #[.int .u8 0, .complex .f64 (fl pl) (fl pc), .complex .f64 (fl pl) (fl pc), .string ⟨#[]⟩, .int .i64 0] rfl)
    | (refine step_append_lies _ (by rfl) _ _ _ (by rfl) (w.heap.size + 1) 40 i0 _ 5 64 Tryz.underlying28 hi hz0 hz1 hz2 rfl (by omega) lv an xs (by rfl) Q.out.2.2.2.2 ⟨x.heap.size, 0, none⟩ 1 1 [.int .u8 0, .complex .f64 (fl pl) (fl pc), .complex .f64 (fl pl) (fl pc), .string ⟨#[]⟩, .int .i64 0] (by rfl) (by rfl) Q.out.1 Q.out.2.1 (by omega) Q.out.2.2.1 (by omega) Q.out.2.2.2.1 (x.heap.size + 1) (by simp) ?_; intro g' cap w1 hown1 hgrow hor hlt1; have HE := qh (And.intro hown1 (PS.appended HZ.out hown1 hgrow).bel); clear hown1 hgrow hor hlt1))
   all_goals
    go_wp2
    go_ret3
    rw [HF.out]
    have hl : (acc ++ [(noTk, i, i)]).length = an + 1 := by rw [List.length_append, HLN.out]; rfl
    refine ⟨g', cap, by rw [hl]; rfl, ?_, HE.out.2⟩
    rw [hl, HV.out]
    exact own_mono HE.out.1 (Nat.le_succ _)
  ·have hne : s'.toList.isEmpty = false := by rw [ByteArray.toList_eq, List.isEmpty_eq_false_iff, ne_eq, empty_iff]; omega
   have hne2 : ¬ s'.toList = [] := by rw [ByteArray.toList_eq, empty_iff]; omega
   have x0 : (0 : Int) < (s'.size : Int) := by omega
   have hil : i < src.length := by omega
   have HH : Hid ((src.drop i).head? = some s'[0]) := qh (by rw [← HSR.out]; exact head_at s' h0)
   obtain ⟨pl, pc, hp⟩ : ∃ a b, at_ src i = (a, b) := ⟨_, _, rfl⟩
   have hz : PS w wr (at_ src i).1 (at_ src i).2 lv acc.length (flat src acc) := ⟨HBK.out, HO.out, HBL.out⟩
   have PC := qh (fun w => pos_at (HAT.out i).1 w)
   rw [hp] at hz PC
   have HZ := qh hz
   have hlt1 := hz.lt
   have t9 : ((s'[0].toNat : Int) == 9) = (s'[0] == 9) := u8_eq s'[0] 9 (by omega)
   have t10 : ((s'[0].toNat : Int) == 10) = (s'[0] == 10) := u8_eq s'[0] 10 (by omega)
   have t13 : ((s'[0].toNat : Int) == 13) = (s'[0] == 13) := u8_eq s'[0] 13 (by omega)
   have t32 : ((s'[0].toNat : Int) == 32) = (s'[0] == 32) := u8_eq s'[0] 32 (by omega)
   have hB : isB s'[0] = (s'[0] == 9 || s'[0] == 10 || s'[0] == 13 || s'[0] == 32) := rfl
   clear HBK HO HBL hz
   generalize (s'[0] == 9) = e9 at *
   generalize (s'[0] == 10) = e10 at *
   generalize (s'[0] == 13) = e13 at *
   generalize (s'[0] == 32) = e32 at *
   by_cases hb : isB s'[0] = true
   ·have HNX := qh (show scanL src = (scanAt src (i + 1)).map (acc ++ ·) by
     rw [HSC.out, scanAt_blank hil (n := 1) (by unfold item; rw [HH.out, Option.getD_some, if_pos hb])])
    have hB' := hB.symm.trans hb
    clear hB HSC HH
    rcases e9 with _ | _
    ·rcases e10 with _ | _
     ·rcases e13 with _ | _
      ·rcases e32 with _ | _
       ·cases hB'
       ·have hsl := fun w => run_slice_string_h (P := Tryz.prog) (w := w) (t := 9) (s := s') Tryz.underlying9 .i64 1 (by omega) (by omega)
        have hsl2 := fun w => run_slice_string_l (P := Tryz.prog) (w := w) (t := 9) (s := s') Tryz.underlying9 .i64 1 (by omega) (by omega)
        rw [show (1 : Int).toNat = 1 from rfl] at hsl hsl2
        obtain ⟨ql, qc, hq⟩ : ∃ a b, at_ src (i + 1) = (a, b) := ⟨_, _, rfl⟩
        have bh := fun w => beh_at (q := at_ src (i + 1)) (s'.extract 0 (1)) (HAT.out i).1 (by rw [take_data, HSR.out]; exact at_add src i _) (by simp; omega) w
        rw [hp, hq] at bh
        have BH := qh bh
        obtain ⟨m0, m1, f0, f1⟩ := HZ.out.facts
        have HZ := qh HZ.out.drew
        have HSD := qh (show (s'.extract (1) s'.size).data.toList = src.drop (i + 1) by rw [ByteArray.data_extract, Array.toList_extract, List.extract_eq_take_drop, HSR.out, List.drop_drop, List.take_of_length_le (by rw [List.length_drop]; omega)])
        have HSZ := qh (show (s'.extract (1) s'.size).size = s'.size - (1) by simp)
        have HQ := qh hq
        clear bh hq
        go_wp2
        go_region_law (first
         | (go_simp; go_at_call 24; (with_reducible refine (BH.out _).mono ?_); rintro e x ⟨rfl, hb⟩; have HZ := qh (HZ.out.below hb); clear hb; obtain ⟨m0, m1, f0, f1⟩ := HZ.out.facts))
        all_goals
         go_wp2
         go_roundw
         case rel =>
          have hs := HZ.out.setPos ql qc
          refine ⟨i + 1, acc, s'.extract (1) s'.size, _, by rw [HSZ.out]; omega, rfl, rfl, hs.lt, by omega, qh HSD.out, qh ?_, qh (by rw [HQ.out]; exact hs.pos), qh hs.bel, qh HNX.out⟩
          exact hs.own
         case measure => (show strLen _ < strLen _); simp only [strLen]; rw [HSZ.out]; omega
      ·have hsl := fun w => run_slice_string_h (P := Tryz.prog) (w := w) (t := 9) (s := s') Tryz.underlying9 .i64 1 (by omega) (by omega)
       have hsl2 := fun w => run_slice_string_l (P := Tryz.prog) (w := w) (t := 9) (s := s') Tryz.underlying9 .i64 1 (by omega) (by omega)
       rw [show (1 : Int).toNat = 1 from rfl] at hsl hsl2
       obtain ⟨ql, qc, hq⟩ : ∃ a b, at_ src (i + 1) = (a, b) := ⟨_, _, rfl⟩
       have bh := fun w => beh_at (q := at_ src (i + 1)) (s'.extract 0 (1)) (HAT.out i).1 (by rw [take_data, HSR.out]; exact at_add src i _) (by simp; omega) w
       rw [hp, hq] at bh
       have BH := qh bh
       obtain ⟨m0, m1, f0, f1⟩ := HZ.out.facts
       have HZ := qh HZ.out.drew
       have HSD := qh (show (s'.extract (1) s'.size).data.toList = src.drop (i + 1) by rw [ByteArray.data_extract, Array.toList_extract, List.extract_eq_take_drop, HSR.out, List.drop_drop, List.take_of_length_le (by rw [List.length_drop]; omega)])
       have HSZ := qh (show (s'.extract (1) s'.size).size = s'.size - (1) by simp)
       have HQ := qh hq
       clear bh hq
       go_wp2
       go_region_law (first
        | (go_simp; go_at_call 24; (with_reducible refine (BH.out _).mono ?_); rintro e x ⟨rfl, hb⟩; have HZ := qh (HZ.out.below hb); clear hb; obtain ⟨m0, m1, f0, f1⟩ := HZ.out.facts))
       all_goals
        go_wp2
        go_roundw
        case rel =>
         have hs := HZ.out.setPos ql qc
         refine ⟨i + 1, acc, s'.extract (1) s'.size, _, by rw [HSZ.out]; omega, rfl, rfl, hs.lt, by omega, qh HSD.out, qh ?_, qh (by rw [HQ.out]; exact hs.pos), qh hs.bel, qh HNX.out⟩
         exact hs.own
        case measure => (show strLen _ < strLen _); simp only [strLen]; rw [HSZ.out]; omega
     ·have hsl := fun w => run_slice_string_h (P := Tryz.prog) (w := w) (t := 9) (s := s') Tryz.underlying9 .i64 1 (by omega) (by omega)
      have hsl2 := fun w => run_slice_string_l (P := Tryz.prog) (w := w) (t := 9) (s := s') Tryz.underlying9 .i64 1 (by omega) (by omega)
      rw [show (1 : Int).toNat = 1 from rfl] at hsl hsl2
      obtain ⟨ql, qc, hq⟩ : ∃ a b, at_ src (i + 1) = (a, b) := ⟨_, _, rfl⟩
      have bh := fun w => beh_at (q := at_ src (i + 1)) (s'.extract 0 (1)) (HAT.out i).1 (by rw [take_data, HSR.out]; exact at_add src i _) (by simp; omega) w
      rw [hp, hq] at bh
      have BH := qh bh
      obtain ⟨m0, m1, f0, f1⟩ := HZ.out.facts
      have HZ := qh HZ.out.drew
      have HSD := qh (show (s'.extract (1) s'.size).data.toList = src.drop (i + 1) by rw [ByteArray.data_extract, Array.toList_extract, List.extract_eq_take_drop, HSR.out, List.drop_drop, List.take_of_length_le (by rw [List.length_drop]; omega)])
      have HSZ := qh (show (s'.extract (1) s'.size).size = s'.size - (1) by simp)
      have HQ := qh hq
      clear bh hq
      go_wp2
      go_region_law (first
       | (go_simp; go_at_call 24; (with_reducible refine (BH.out _).mono ?_); rintro e x ⟨rfl, hb⟩; have HZ := qh (HZ.out.below hb); clear hb; obtain ⟨m0, m1, f0, f1⟩ := HZ.out.facts))
      all_goals
       go_wp2
       go_roundw
       case rel =>
        have hs := HZ.out.setPos ql qc
        refine ⟨i + 1, acc, s'.extract (1) s'.size, _, by rw [HSZ.out]; omega, rfl, rfl, hs.lt, by omega, qh HSD.out, qh ?_, qh (by rw [HQ.out]; exact hs.pos), qh hs.bel, qh HNX.out⟩
        exact hs.own
       case measure => (show strLen _ < strLen _); simp only [strLen]; rw [HSZ.out]; omega
    ·have hsl := fun w => run_slice_string_h (P := Tryz.prog) (w := w) (t := 9) (s := s') Tryz.underlying9 .i64 1 (by omega) (by omega)
     have hsl2 := fun w => run_slice_string_l (P := Tryz.prog) (w := w) (t := 9) (s := s') Tryz.underlying9 .i64 1 (by omega) (by omega)
     rw [show (1 : Int).toNat = 1 from rfl] at hsl hsl2
     obtain ⟨ql, qc, hq⟩ : ∃ a b, at_ src (i + 1) = (a, b) := ⟨_, _, rfl⟩
     have bh := fun w => beh_at (q := at_ src (i + 1)) (s'.extract 0 (1)) (HAT.out i).1 (by rw [take_data, HSR.out]; exact at_add src i _) (by simp; omega) w
     rw [hp, hq] at bh
     have BH := qh bh
     obtain ⟨m0, m1, f0, f1⟩ := HZ.out.facts
     have HZ := qh HZ.out.drew
     have HSD := qh (show (s'.extract (1) s'.size).data.toList = src.drop (i + 1) by rw [ByteArray.data_extract, Array.toList_extract, List.extract_eq_take_drop, HSR.out, List.drop_drop, List.take_of_length_le (by rw [List.length_drop]; omega)])
     have HSZ := qh (show (s'.extract (1) s'.size).size = s'.size - (1) by simp)
     have HQ := qh hq
     clear bh hq
     go_wp2
     go_region_law (first
      | (go_simp; go_at_call 24; (with_reducible refine (BH.out _).mono ?_); rintro e x ⟨rfl, hb⟩; have HZ := qh (HZ.out.below hb); clear hb; obtain ⟨m0, m1, f0, f1⟩ := HZ.out.facts))
     all_goals
      go_wp2
      go_roundw
      case rel =>
       have hs := HZ.out.setPos ql qc
       refine ⟨i + 1, acc, s'.extract (1) s'.size, _, by rw [HSZ.out]; omega, rfl, rfl, hs.lt, by omega, qh HSD.out, qh ?_, qh (by rw [HQ.out]; exact hs.pos), qh hs.bel, qh HNX.out⟩
       exact hs.own
      case measure => (show strLen _ < strLen _); simp only [strLen]; rw [HSZ.out]; omega
   ·have h4 : e9 = false ∧ e10 = false ∧ e13 = false ∧ e32 = false := by
     rw [hB] at hb
     revert hb
     cases e9 <;> cases e10 <;> cases e13 <;> cases e32 <;> simp
    obtain ⟨rfl, rfl, rfl, rfl⟩ := h4
    have HB := qh hb
    clear hB hb
    by_cases h2 : (src.drop i).take 2 = [40, 42]
    ·have hsz2 : (2 : Int) ≤ (s'.size : Int) := by
      have := congrArg List.length h2
      rw [List.length_take, List.length_drop] at this
      simp at this; omega
     have hsb : ((s'.extract 0 2).toList == [40, 42]) = true := by rw [ext_front, HSR.out, h2]; rfl
     have hci : item (src.drop i) = if cmt 0 0 (src.drop i) = 0 then .bad 43 else .blank (cmt 0 0 (src.drop i)) := by
      unfold item; rw [HH.out, Option.getD_some, if_neg HB.out, if_pos h2]
     have CM := qh (fun w => comment_any s' (by omega) w)
     rw [HSR.out] at CM
     clear h2
     generalize cmt 0 0 (src.drop i) = n at *
     obtain ⟨m0, m1, f0, f1⟩ := HZ.out.facts
     go_wp2_with fail
     ((with_reducible refine (CM.out _).mono ?_); rintro e w1 ⟨rfl, rfl⟩)
     by_cases hn : n = 0
     ·subst hn
      rw [if_pos rfl] at hci
      have HF := qh (show scanL src = .error (i, 43) by rw [HSC.out, scanAt_bad hil hci]; rfl)
      have HP := qh hp
      clear hci HSC CM HH HB hp
      go_wp2_with fail
      ((with_reducible refine (PC.out _).mono ?_); rintro e w1 ⟨rfl, hb⟩)
      have HE := qh (HZ.out.below hb).bel
      clear hb
      go_wp2
      go_ret3
      rw [HF.out]
      refine ⟨?_, HE.out⟩
      rw [HP.out]
      rfl
     ·rw [if_neg hn] at hci
      have HNX := qh (show scanL src = (scanAt src (i + n)).map (acc ++ ·) by rw [HSC.out, scanAt_blank hil hci])
      have hnb := (item_in hil).1 n hci
      have hn1 : (n : Int) ≤ (s'.size : Int) := by omega
      have hn0 : ((n : Int) == 0) = false := by simp only [beq_eq_false_iff_ne, ne_eq]; omega
      clear hci HSC CM HH HB hn m0 m1 f0 f1
      have hsl := fun w => run_slice_string_h (P := Tryz.prog) (w := w) (t := 9) (s := s') Tryz.underlying9 .i64 (n : Int) (by omega) (by omega)
      have hsl2 := fun w => run_slice_string_l (P := Tryz.prog) (w := w) (t := 9) (s := s') Tryz.underlying9 .i64 (n : Int) (by omega) (by omega)
      simp only [Int.toNat_natCast] at hsl hsl2
      obtain ⟨ql, qc, hq⟩ : ∃ a b, at_ src (i + n) = (a, b) := ⟨_, _, rfl⟩
      have bh := fun w => beh_at (q := at_ src (i + n)) (s'.extract 0 (n)) (HAT.out i).1 (by rw [take_data, HSR.out]; exact at_add src i _) (by simp; omega) w
      rw [hp, hq] at bh
      have BH := qh bh
      obtain ⟨m0, m1, f0, f1⟩ := HZ.out.facts
      have HZ := qh HZ.out.drew
      have HSD := qh (show (s'.extract (n) s'.size).data.toList = src.drop (i + n) by rw [ByteArray.data_extract, Array.toList_extract, List.extract_eq_take_drop, HSR.out, List.drop_drop, List.take_of_length_le (by rw [List.length_drop]; omega)])
      have HSZ := qh (show (s'.extract (n) s'.size).size = s'.size - (n) by simp)
      have HQ := qh hq
      clear bh hq
      go_wp2
      go_region_law (first
       | (go_simp; go_at_call 24; (with_reducible refine (BH.out _).mono ?_); rintro e x ⟨rfl, hb⟩; have HZ := qh (HZ.out.below hb); clear hb; obtain ⟨m0, m1, f0, f1⟩ := HZ.out.facts))
      all_goals
       go_wp2
       go_roundw
       case rel =>
        have hs := HZ.out.setPos ql qc
        refine ⟨i + n, acc, s'.extract (n) s'.size, _, by rw [HSZ.out]; omega, rfl, rfl, hs.lt, by omega, qh HSD.out, qh ?_, qh (by rw [HQ.out]; exact hs.pos), qh hs.bel, qh HNX.out⟩
        exact hs.own
       case measure => (show strLen _ < strLen _); simp only [strLen]; rw [HSZ.out]; omega
    ·have hsb : (s'.size < 2 ∨ ((s'.extract 0 2).toList == [40, 42]) = false) := by
      right; rw [ext_front, HSR.out]; simpa using h2
     have hci : item (src.drop i) = match oneN s'.data.toList with | .error e => .bad e | .ok (t, n) => .tok t n := by
      unfold item; rw [HH.out, Option.getD_some, if_neg HB.out, if_neg h2, HSR.out] <;> (cases oneN _ <;> rfl)
     have HCI := qh hci
     obtain ⟨m0, m1, f0, f1⟩ := HZ.out.facts
     clear hci h2 HB HH
     rcases Nat.lt_or_ge s'.size 2 with hsz | hsz
     case' inl =>
      have hz2 : ¬ (2 : Int) ≤ (s'.size : Int) := by omega
      have hz3 : decide ((2 : Int) ≤ (s'.size : Int)) = false := by simp; omega
      clear hsb hsz
      go_wp2_with fail
     case' inr =>
      have hz2 : (2 : Int) ≤ (s'.size : Int) := by omega
      have hz3 : decide ((2 : Int) ≤ (s'.size : Int)) = true := by simp; omega
      have hsb := hsb.resolve_left (by omega)
      clear hsz
      go_wp2_with fail
     all_goals
      ((with_reducible refine (One_any s' h0 (by omega) _).mono ?_); rintro e w1 ⟨he, hb⟩)
      have HZ := qh (HZ.out.below hb)
      have hlt2 := HZ.out.lt
      clear hb m0 m1 f0 f1
      obtain ⟨m0, m1, f0, f1⟩ := HZ.out.facts
      rcases hone : oneN s'.data.toList with k | ⟨⟨tk, tt, tn⟩, n⟩
      ·rw [hone] at he
       have hci := HCI.out
       rw [hone] at hci
       have hk := oneN_err _ _ hone
       have HF := qh (show scanL src = .error (i, k) by rw [HSC.out, scanAt_bad hil hci]; rfl)
       have hk0 : ((k : Int) == 0) = false := by simp only [beq_eq_false_iff_ne, ne_eq]; omega
       have hk1 : ((k : Int) != 0) = true := ne_of_eq hk0
       have HP := qh hp
       unfold oneEnd at he
       subst he
       clear hci HSC HCI hone hk hp
       simp only [Tk.val, Tk.vals, noTk, C, fl_0]
       go_wp2_with fail
       ((with_reducible refine (PC.out _).mono ?_); rintro e w2 ⟨rfl, hb⟩)
       have HE := qh ((HZ.out.tok (.int .u8 0) (.complex .f64 0 0) (.complex .f64 0 0) (.string ⟨#[]⟩) (.int .i64 0)).below hb).bel
       clear hb
       go_wp2
       go_ret3
       rw [HF.out]
       refine ⟨?_, HE.out⟩
       rw [HP.out]
       rfl
      ·rw [hone] at he
       have hci := HCI.out
       rw [hone] at hci
       have HNX := qh (show scanL src = (scanAt src (i + n)).map ((acc ++ [(⟨tk, tt, tn⟩, i, i + n)]) ++ ·) by
        rw [HSC.out, scanAt_tok hil hci, map_map_e]; congr 1; funext x; simp)
       have hnb := (item_in hil).2 _ n hci
       have hn1 : (n : Int) ≤ (s'.size : Int) := by omega
       unfold oneEnd at he
       subst he
       clear hci HSC HCI hone
       simp only [Tk.val, Tk.vals, C, fl_0]
       have HR := qh (HZ.out.tok (.int .u8 tk) (.complex .f64 0 0) (.complex .f64 0 0) (.string tt) (.int .i64 tn))
       clear HZ
       go_wp2_with fail
       ((with_reducible refine (PC.out _).mono ?_); rintro e w2 ⟨rfl, hb⟩)
       have hr := HR.out.below hb
       clear m0 m1 f0 f1 hb
       obtain ⟨m0, m1, f0, f1⟩ := hr.facts
       obtain ⟨c0, c1, c2, c3, c4, g0, g1, g2, g3, g4⟩ := hr.tok.tok
       have HR := qh (hr.set1 (.complex .f64 (fl pl) (fl pc)))
       clear hr
       go_wp2
       generalize w2.setCell ⟨w1.heap.size, 1, none⟩ (.complex .f64 (fl pl) (fl pc)) = w3 at *
       clear m0 m1 f0 f1 c0 c1 c2 c3 c4 g0 g1 g2 g3 g4
       obtain ⟨m0, m1, f0, f1⟩ := HR.out.facts
       obtain ⟨c0, c1, c2, c3, c4, g0, g1, g2, g3, g4⟩ := HR.out.tok.tok
       have hsl := fun w => run_slice_string_h (P := Tryz.prog) (w := w) (t := 9) (s := s') Tryz.underlying9 .i64 (n : Int) (by omega) (by omega)
       simp only [Int.toNat_natCast] at hsl
       obtain ⟨ql, qc, hq⟩ : ∃ a b, at_ src (i + n) = (a, b) := ⟨_, _, rfl⟩
       have bh := fun w => beh_at (q := at_ src (i + n)) (s'.extract 0 n) (HAT.out i).1 (by rw [take_data, HSR.out]; exact at_add src i _) (by simp; omega) w
       have PQ := qh (fun w => pos_at (HAT.out (i + n)).1 w)
       rw [hp, hq] at bh
       rw [hq] at PQ
       have BH := qh bh
       have HV := qh (show Tok.vals src (⟨tk, tt, tn⟩, i, i + n) = [.int .u8 tk, .complex .f64 (fl pl) (fl pc), .complex .f64 (fl ql) (fl qc), .string tt, .int .i64 tn] by simp only [Tok.vals, hp, hq]; rfl)
       have HR := qh HR.out.drew
       clear bh hq
       go_region_law (first
        | (go_simp; go_at_call 24; (with_reducible refine (BH.out _).mono ?_); rintro e x ⟨rfl, hb⟩; have HR := qh (HR.out.below hb); clear hb; obtain ⟨m0, m1, f0, f1⟩ := HR.out.facts; obtain ⟨c0, c1, c2, c3, c4, g0, g1, g2, g3, g4⟩ := HR.out.tok.tok)
        | (go_simp; go_at_call 16; (with_reducible refine (PQ.out _).mono ?_); rintro e x ⟨rfl, hb⟩; have HR := qh (HR.out.below hb); clear hb; obtain ⟨m0, m1, f0, f1⟩ := HR.out.facts; obtain ⟨c0, c1, c2, c3, c4, g0, g1, g2, g3, g4⟩ := HR.out.tok.tok))
       all_goals
        clear hsl
        have HR := qh (HR.out.set2 (.complex .f64 (fl ql) (fl qc)))
        generalize x.setCell ⟨w1.heap.size, 2, none⟩ (.complex .f64 (fl ql) (fl qc)) = w4 at *
        obtain ⟨m0, m1, f0, f1⟩ := HR.out.facts
        obtain ⟨c0, c1, c2, c3, c4, g0, g1, g2, g3, g4⟩ := HR.out.tok.tok
        obtain ⟨i0, hi0, hz0, hz1, hz2⟩ := info_parts info40
        have hacn : acc.length ≤ 1000000 := by omega
        have Q := app_facts HR.out.toPS hacn #[.int .u8 tk, .complex .f64 (fl pl) (fl pc), .complex .f64 (fl ql) (fl qc), .string tt, .int .i64 tn] rfl
        go_wp2_with (at_builtin; refine wpList_append_lies _ rfl _ _ _ rfl (w.heap.size + 1) 40 i0 _ 5 64 Tryz.underlying28 hi0 hz0 hz1 hz2 rfl (by omega) lv acc.length (flat src acc) rfl Q.out.2.2.2.2 ⟨w4.heap.size, 0, none⟩ 1 1 [.int .u8 tk, .complex .f64 (fl pl) (fl pc), .complex .f64 (fl ql) (fl qc), .string tt, .int .i64 tn] rfl rfl Q.out.1 Q.out.2.1 (by omega) Q.out.2.2.1 (by omega) Q.out.2.2.2.1 (w4.heap.size + 1) (by simp) ?_; intro g' cap w5 hown1 hgrow hor hlt5; have HZ := qh (PS.appended HR.out.toPS hown1 hgrow); clear hown1 hgrow hor hlt5)
        clear m0 m1 f0 f1 c0 c1 c2 c3 c4 g0 g1 g2 g3 g4 Q hi0 hz0 hz1 hz2
        have hsl := fun w => run_slice_string_h (P := Tryz.prog) (w := w) (t := 9) (s := s') Tryz.underlying9 .i64 (n : Int) (by omega) (by omega)
        have hsl2 := fun w => run_slice_string_l (P := Tryz.prog) (w := w) (t := 9) (s := s') Tryz.underlying9 .i64 (n : Int) (by omega) (by omega)
        simp only [Int.toNat_natCast] at hsl hsl2
        obtain ⟨ql, qc, hq⟩ : ∃ a b, at_ src (i + n) = (a, b) := ⟨_, _, rfl⟩
        have bh := fun w => beh_at (q := at_ src (i + n)) (s'.extract 0 (n)) (HAT.out i).1 (by rw [take_data, HSR.out]; exact at_add src i _) (by simp; omega) w
        rw [hp, hq] at bh
        have BH := qh bh
        obtain ⟨m0, m1, f0, f1⟩ := HZ.out.facts
        have HZ := qh HZ.out.drew
        have HSD := qh (show (s'.extract (n) s'.size).data.toList = src.drop (i + n) by rw [ByteArray.data_extract, Array.toList_extract, List.extract_eq_take_drop, HSR.out, List.drop_drop, List.take_of_length_le (by rw [List.length_drop]; omega)])
        have HSZ := qh (show (s'.extract (n) s'.size).size = s'.size - (n) by simp)
        have HQ := qh hq
        clear bh hq
        go_wp2
        go_region_law (first
         | (go_simp; go_at_call 24; (with_reducible refine (BH.out _).mono ?_); rintro e x ⟨rfl, hb⟩; have HZ := qh (HZ.out.below hb); clear hb; obtain ⟨m0, m1, f0, f1⟩ := HZ.out.facts))
        all_goals
         go_wp2
         go_roundw
         case rel =>
          have hs := HZ.out.setPos ql qc
          refine ⟨i + n, acc ++ [(⟨tk, tt, tn⟩, i, i + n)], s'.extract (n) s'.size, _, by rw [HSZ.out]; omega, rfl, rfl, hs.lt, by rw [List.length_append]; simp only [List.length_singleton]; omega, qh HSD.out, qh ?_, qh (by rw [HQ.out]; exact hs.pos), qh hs.bel, qh HNX.out⟩
          rw [flat_snoc, HV.out, List.length_append]; exact hs.own
         case measure => (show strLen _ < strLen _); simp only [strLen]; rw [HSZ.out]; omega
end Go.Proofs.YtkemhmfdooghkaaGreatDoor.Lx
end

section
namespace Go.Proofs.YtkemhmfdooghkaaGreatDoor.Ex
open Go.RowKit
open Tr (Nd Fo RepS RepN Rep)
open Lx (Tk noTk Blk run_store_complexL TokAt scanL flat scanEnd at_ flat_len)
open Fl
attribute [local go_sem] run_store_complexL run_field1 run_field3
structure RowAt (w : World) (A : Option Addr) (L : List PT) : Prop where
 reads : Reads w w.heap.size 5 A L.length (flatP L)
 low : ∀ ad, A = some ad → ad.block < w.heap.size
 len : L.length ≤ 20000
theorem RowAt.below {w w' : World} {A : Option Addr} {L : List PT} (h : RowAt w A L) (hb : Below w.heap.size w w') : RowAt w' A L :=
 ⟨(h.reads.below hb).more hb.size, fun ad e => Nat.lt_of_lt_of_le (h.low ad e) hb.size, h.len⟩
theorem reads_front {w : World} {B m n : Nat} {A : Option Addr} {xs ys : List Value} (h : Reads w B 5 A n (xs ++ ys)) (hm : xs.length = m * 5) (hmn : m ≤ n) : Reads w B 5 A m xs :=
 ⟨hm, fun h0 => by
   obtain ⟨ad, e, hb, hc⟩ := h.2 (by omega)
   refine ⟨ad, e, hb, fun j u hu => hc j u ?_⟩
   obtain ⟨hj, _⟩ := List.getElem?_eq_some_iff.1 hu
   rw [List.getElem?_append_left hj]; exact hu⟩
theorem scanF_len : ∀ (f i : Nat) (s : List UInt8) (l : List Lx.Tok), s.length < f → Lx.scanF f i s = .ok l → 1 ≤ l.length ∧ l.length ≤ s.length + 1 := by
 intro f
 induction f with
 | zero => intro i s l h; omega
 | succ f ih =>
   intro i s l h e
   unfold Lx.scanF at e
   by_cases hs : s = []
   ·rw [if_pos hs] at e; cases e; simp
   ·rw [if_neg hs] at e
    obtain ⟨h1, h2⟩ := Lx.item_bd s hs
    cases e1 : Lx.item s with
    | bad k => rw [e1] at e; cases e
    | blank n =>
      have := h1 n e1
      rw [e1] at e
      have := ih _ _ _ (by rw [List.length_drop]; omega) e
      rw [List.length_drop] at this
      omega
    | tok t n =>
      have h3 := h2 t n e1
      rw [e1] at e
      dsimp only at e
      cases e2 : Lx.scanF f (i + n) (s.drop n) with
      | error k => rw [e2] at e; cases e
      | ok l2 =>
        rw [e2] at e
        cases e
        have := ih _ _ _ (by rw [List.length_drop]; omega) e2
        rw [List.length_drop] at this
        simp only [List.length_cons]
        omega
theorem scanL_len {s : List UInt8} {l : List Lx.Tok} (h : scanL s = .ok l) : 1 ≤ l.length ∧ l.length ≤ 16385 ∧ s.length ≤ 16384 := by
 unfold scanL at h
 split at h
 ·cases h
 ·have := scanF_len _ _ _ _ (Nat.lt_succ_self _) h
  omega
theorem flatP_row {s : List UInt8} {l : List Lx.Tok} (h : scanL s = .ok l) : rowP s = l.dropLast.map (fun x => (x.1, at_ s x.2.1, at_ s x.2.2)) := by
 unfold rowP; rw [h]
theorem flat_snoc_last {s : List UInt8} {l : List Lx.Tok} (h : scanL s = .ok l) : ∃ ys, flat s l = flatP (rowP s) ++ ys ∧ (rowP s).length + 1 = l.length := by
 have hl := scanL_len h
 rw [flatP_row h]
 obtain ⟨l1, x, rfl⟩ : ∃ l1 x, l = l1 ++ [x] := by
  rcases List.eq_nil_or_concat l with e | ⟨l1, x, e⟩
  ·subst e; simp at hl
  ·exact ⟨l1, x, by simpa using e⟩
 refine ⟨Lx.Tok.vals s x, ?_, by simp⟩
 rw [Lx.flat_snoc, List.dropLast_concat]
 congr 1
 simp only [flat, flatP, List.flatMap_map]
 rfl
theorem rowP_len (s : List UInt8) : (rowP s).length ≤ 16384 := by
 unfold rowP
 cases h : scanL s with
 | error k => simp
 | ok l =>
   have := scanL_len h
   simp
   omega
theorem item_err (s : List UInt8) (k : Nat) (h : Lx.item s = .bad k) : k ≠ 0 := by
 unfold Lx.item at h
 split at h
 ·cases h
 ·split at h
  ·split at h
   ·injection h with h; omega
   ·cases h
  ·split at h
   ·rename_i e
    injection h with h
    have := Lx.oneN_err _ _ e
    omega
   ·cases h
theorem scanF_err : ∀ (f i : Nat) (s : List UInt8) (j k : Nat), s.length < f → Lx.scanF f i s = .error (j, k) → k ≠ 0 := by
 intro f
 induction f with
 | zero => intro i s j k h; omega
 | succ f ih =>
   intro i s j k h e
   unfold Lx.scanF at e
   by_cases hs : s = []
   ·rw [if_pos hs] at e; cases e
   ·rw [if_neg hs] at e
    obtain ⟨h1, h2⟩ := Lx.item_bd s hs
    cases e1 : Lx.item s with
    | bad k' => rw [e1] at e; cases e; exact item_err s k e1
    | blank n =>
      have := h1 n e1
      rw [e1] at e
      exact ih _ _ _ _ (by rw [List.length_drop]; omega) e
    | tok t n =>
      have h3 := h2 t n e1
      rw [e1] at e
      dsimp only at e
      cases e2 : Lx.scanF f (i + n) (s.drop n) with
      | error k' =>
        rw [e2] at e
        cases e
        exact ih _ _ _ _ (by rw [List.length_drop]; omega) e2
      | ok l2 => rw [e2] at e; cases e
theorem scanL_err {s : List UInt8} {j k : Nat} (h : scanL s = .error (j, k)) : k ≠ 0 := by
 unfold scanL at h
 split at h
 ·cases h; omega
 ·exact scanF_err _ _ _ _ _ (Nat.lt_succ_self _) h
theorem RowAt.take {w : World} {A : Option Addr} {L : List PT} (h : RowAt w A L) {m : Nat} (hm : m ≤ L.length) : RowAt w A (L.take m) := by
 have hl : (L.take m).length = m := by rw [List.length_take]; omega
 refine ⟨?_, h.low, by rw [hl]; have := h.len; omega⟩
 rw [hl]
 refine reads_front (n := L.length) (ys := flatP (L.drop m)) ?_ (by rw [flatP_len, hl]) hm
 have : flatP (L.take m) ++ flatP (L.drop m) = flatP L := by
  simp only [flatP]
  rw [← List.flatMap_append, List.take_append_drop]
 rw [this]
 exact h.reads
def RowR (w : World) (L : List PT) (e : Ending) (w' : World) : Prop := ∃ A c, e = .returned (.slice A L.length c) ∧ L.length ≤ c ∧ RowAt w' A L ∧ Below w.heap.size w w'
set_option maxHeartbeats 1600000 in
theorem row_any (s : ByteArray) (hs : s.size ≤ 9223372036854775800) (w : World) : Calls Tryz.prog 8 #[.string s] w (RowR w (rowP s.data.toList)) := by
 have d1 := Lx.rScan_any s hs w
 cases hx : scanL s.data.toList with
 | error x =>
   obtain ⟨i, k⟩ := x
   rw [hx] at d1
   have HR := qh (show rowP s.data.toList = [] by unfold rowP; rw [hx])
   have hk0 := scanL_err hx
   have b1 : ((k : Int) == 0) = false := by simp only [beq_eq_false_iff_ne, ne_eq]; omega
   have b2 : ((k : Int) != 0) = true := by simp [bne, b1]
   have D1 := qh d1
   clear d1 hx hk0
   go_enter Tryz.func8, Tryz.ntmps8
   go_wp2_with fail
   ((with_reducible refine D1.out.mono ?_); rintro e w1 ⟨rfl, hb⟩)
   have HB := qh hb
   clear hb
   go_wp2
   go_ret
   rw [HR.out]
   exact ⟨none, 0, rfl, Nat.le_refl _, ⟨Reads.none_, (fun ad e => by cases e), by simp⟩, HB.out⟩
 | ok l =>
   rw [hx] at d1
   have hl := scanL_len hx
   obtain ⟨ys, hf, hn⟩ := flat_snoc_last hx
   have HF := qh hf
   have HN := qh hn
   have x1 : (1 : Int) ≤ (l.length : Int) := by omega
   have D1 := qh d1
   have hlr := rowP_len s.data.toList
   clear d1 hx hf hn
   go_enter Tryz.func8, Tryz.ntmps8
   go_wp2_with fail
   ((with_reducible refine D1.out.mono ?_); rintro e w1 ⟨g, cap, rfl, hown, hb⟩)
   have HB := qh hb
   have RD := qh (Reads.of_own hown)
   have hcap : l.length ≤ cap := by
    rcases hown.2 with ⟨h0, _⟩ | ⟨g', cap', cur, e1, h3, h4⟩
    ·cases h0
    ·injection e1 with e1 e2 e3
     subst e3
     first | exact h4.1 | omega
   have hlt := (hown.lt g rfl).2
   clear hb hown
   go_wp2
   go_ret
   have hz : l.length - 1 = (rowP s.data.toList).length := by have := HN.out; omega
   refine ⟨some ⟨g, 0, none⟩, cap, by rw [← hz]; rfl, by omega, ⟨reads_front (n := l.length) (ys := ys) (by rw [← HF.out]; exact RD.out) (flatP_len _) (by omega), (fun ad e => by injection e with e; subst e; exact hlt), by omega⟩, HB.out⟩
section
variable {w : World} {A : Option Addr} {L : List PT} (h : RowAt w A L) (c : Nat) {i : Nat} (hi : i ≤ 60000)
include h hi
theorem parE_any : Calls Tryz.prog 119 #[.slice A L.length c, .int .i64 i, .func (.func 120) #[] #[]] w (ParR w (exprP L i)) :=
 parse_expr exprP (fun w0 br c A L ht => expr_all ht) A c L i hi h.len w h.reads h.low
theorem parD_any : Calls Tryz.prog 119 #[.slice A L.length c, .int .i64 i, .func (.func 158) #[] #[]] w (ParR w (designP L (exprP L) i)) :=
 parse_designator (fun L => designP L (exprP L)) (fun w0 br c A L ht => design_all ht) A c L i hi h.len w h.reads h.low
theorem parQ_any : Calls Tryz.prog 119 #[.slice A L.length c, .int .i64 i, .func (.func 167) #[] #[]] w (ParR w (qualP L i)) :=
 parse_qualident (fun L => qualP L) (fun w0 br c A L ht j _ hj w hw => qual_any ht (by omega) w hw) A c L i hi h.len w h.reads h.low
theorem parL_any : Calls Tryz.prog 119 #[.slice A L.length c, .int .i64 i, .func (.func 155) #[] #[]] w (ParR w (labelsP L i)) :=
 parse_labels labelsP (fun w0 br c A L ht => labels1_any ht) A c L i hi h.len w h.reads h.low
end
theorem par_split {w : World} {r : Except Nat (T1 × Nat)} {F : Nat} {args : Array Value} (h : Calls Tryz.prog F args w (ParR w r)) :
 Calls Tryz.prog F args w fun e w' => ∃ (v j k : Value), e = .returned (.tuple #[v, j, k]) ∧ Hid (ParR w r (.returned (.tuple #[v, j, k])) w') := by
 refine h.mono fun e w' h => ?_
 cases r with
 | error k => obtain ⟨rfl, hb⟩ := h; exact ⟨_, _, _, rfl, qh ⟨rfl, hb⟩⟩
 | ok x =>
   obtain ⟨x, j⟩ := x
   obtain ⟨b, rfl, hr, hb⟩ := h
   exact ⟨_, _, _, rfl, qh ⟨b, rfl, hr, hb⟩⟩
set_option maxHeartbeats 1600000 in
theorem Expr_any {w : World} {A : Option Addr} {L : List PT} (h : RowAt w A L) (c : Nat) {i : Nat} (hi : i ≤ 60000) : Calls Tryz.prog 99 #[.slice A L.length c, .int .i64 i] w (ParR w (exprP L i)) := by
 have D1 := qh (par_split (parE_any h c hi))
 clear h
 generalize exprP L i = r at *
 go_enter Tryz.func99, Tryz.ntmps99
 go_wp2_with fail
 ((with_reducible refine D1.out.mono ?_); rintro e w1 ⟨v, j, k, rfl, HP⟩)
 go_wp2
 go_ret3
 exact HP.out
set_option maxHeartbeats 1600000 in
theorem Design_any {w : World} {A : Option Addr} {L : List PT} (h : RowAt w A L) (c : Nat) {i : Nat} (hi : i ≤ 60000) : Calls Tryz.prog 139 #[.slice A L.length c, .int .i64 i] w (ParR w (designP L (exprP L) i)) := by
 have D1 := qh (par_split (parD_any h c hi))
 clear h
 generalize designP L (exprP L) i = r at *
 go_enter Tryz.func139, Tryz.ntmps139
 go_wp2_with fail
 ((with_reducible refine D1.out.mono ?_); rintro e w1 ⟨v, j, k, rfl, HP⟩)
 go_wp2
 go_ret3
 exact HP.out
set_option maxHeartbeats 1600000 in
theorem Qual_any {w : World} {A : Option Addr} {L : List PT} (h : RowAt w A L) (c : Nat) {i : Nat} (hi : i ≤ 60000) : Calls Tryz.prog 163 #[.slice A L.length c, .int .i64 i] w (ParR w (qualP L i)) := by
 have D1 := qh (par_split (parQ_any h c hi))
 clear h
 generalize qualP L i = r at *
 go_enter Tryz.func163, Tryz.ntmps163
 go_wp2_with fail
 ((with_reducible refine D1.out.mono ?_); rintro e w1 ⟨v, j, k, rfl, HP⟩)
 go_wp2
 go_ret3
 exact HP.out
set_option maxHeartbeats 1600000 in
theorem Labels_any {w : World} {A : Option Addr} {L : List PT} (h : RowAt w A L) (c : Nat) {i : Nat} (hi : i ≤ 60000) : Calls Tryz.prog 137 #[.slice A L.length c, .int .i64 i] w (ParR w (labelsP L i)) := by
 have D1 := qh (par_split (parL_any h c hi))
 clear h
 generalize labelsP L i = r at *
 go_enter Tryz.func137, Tryz.ntmps137
 go_wp2_with fail
 ((with_reducible refine D1.out.mono ?_); rintro e w1 ⟨v, j, k, rfl, HP⟩)
 go_wp2
 go_ret3
 exact HP.out
end Go.Proofs.YtkemhmfdooghkaaGreatDoor.Ex
namespace Go.Proofs.YtkemhmfdooghkaaGreatDoor.Ex
open Go.RowKit
open Tr (Nd Fo RepS RepN Rep)
open Lx (Tk noTk Blk run_store_complexL TokAt scanL flat scanEnd at_ flat_len)
open Fl
attribute [local go_sem] run_store_complexL run_field1 run_field3
theorem row_at (s : ByteArray) (hs : s.size ≤ 9223372036854775800) (L : List PT) (hL : rowP s.data.toList = L) (w : World) : Calls Tryz.prog 8 #[.string s] w (RowR w L) := hL ▸ row_any s hs w
end Go.Proofs.YtkemhmfdooghkaaGreatDoor.Ex
end
