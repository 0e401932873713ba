/- strconv.FormatInt, base 8. -/
import Derived.Test.YtkiedbanobjmlaaDoorL18
import Derived.Laws.BytesArg
import Derived.Laws.BitsAllLaws
set_option linter.unusedSimpArgs false
set_option linter.unusedVariables false
namespace Go.Proofs.YtkiedbanobjmlaaDoor.Lx
open Go.RowKit
open Pl Fl

/-- What the table of trailing zeros holds where 8 asks. -/
def Tz (w : World) : Prop := w.cell? ⟨5, 7, none⟩ = some (.int .u8 3)
theorem Tz.below {w w' : World} (h : Tz w) (hb : Below w.heap.size w w') : Tz w' := (hb.cell (cell_lt h)).trans h
set_option maxHeartbeats 1600000 in
theorem tz64_8 {w : World} (h : Tz w) : Calls Tryd.prog 102 #[.int .u64 8] w fun e w' => e = .returned (.int .i64 3) ∧ w' = w := by
  have h7 : w.cell? ⟨5, 7, none⟩ = some (.int .u8 3) := h
  have e0 : bits BinOp.and IntKind.u64 8 (IntKind.u64.wrap (-8)) = 8 := by decide +kernel
  have e1 : IntKind.u64.wrap 2286961704410830920 = 2286961704410830920 := by decide +kernel
  clear h
  go_enter Tryd.func102, Tryd.ntmps102
  go_wp2
  go_ret
  exact ⟨rfl, rfl⟩
set_option maxHeartbeats 1600000 in
theorem tz_8 {w : World} (h : Tz w) : Calls Tryd.prog 94 #[.int .u64 8] w fun e w' => e = .returned (.int .i64 3) ∧ w' = w := by
  have HZ := Lib.hid (tz64_8 h)
  clear h
  go_enter Tryd.func94, Tryd.ntmps94
  go_wp2_with fail
  refine HZ.out.mono ?_
  rintro e w1 ⟨rfl, hw⟩
  subst hw
  go_wp2
  go_ret
  exact ⟨rfl, rfl⟩
set_option maxHeartbeats 1600000 in
theorem pow2_8 (w : World) : Calls Tryd.prog 93 #[.int .i64 8] w fun e w' => e = .returned (.bool true) ∧ w' = w := by
  go_enter Tryd.func93, Tryd.ntmps93
  go_wp2
  go_ret
  exact ⟨rfl, rfl⟩

/-- The row of 65 bytes, the last of which are written. -/
def a65 (l : List UInt8) : Array Value := (List.replicate (65 - l.length) (Value.int .u8 0) ++ l.map fun c => Value.int .u8 c.toNat).toArray
theorem a65_set (l : List UInt8) (c : UInt8) {i : Nat} (hi : i + 1 + l.length = 65) : (a65 l).setIfInBounds i (.int .u8 c.toNat) = a65 (c :: l) := by
  unfold a65
  simp only [List.setIfInBounds_toArray, List.length_cons, List.map_cons]
  congr 1
  rw [show 65 - l.length = i + 1 by omega, show 65 - (l.length + 1) = i by omega, List.replicate_succ', List.append_assoc, List.set_append_right _ _ (by simp)]
  simp
theorem a65_at (l : List UInt8) (hl : l.length ≤ 65) {i : Nat} (hi : i < l.length) : (a65 l)[65 - l.length + i]? = some (.int .u8 (l[i].toNat : Nat)) := by
  unfold a65
  simp [hi]
theorem dig36 : ∀ d, (h : d < 8) → (⟨#[48, 49, 50, 51, 52, 53, 54, 55, 56, 57, 97, 98, 99, 100, 101, 102, 103, 104, 105, 106, 107, 108, 109, 110, 111, 112, 113, 114, 115, 116, 117, 118, 119, 120, 121, 122]⟩ : ByteArray)[d]'(Nat.lt_trans h (by decide)) = chD d := by decide
theorem slice65 (w : World) (b i : Nat) (hi : i < 65) : (Instr.sliceAt 108 (.pointer (some ⟨b, 0, none⟩)) (some (.int .i64 (i : Nat))) none none).run Tryd.prog w = .ok (.slice (some ⟨b, i, none⟩) (65 - i) (65 - i)) w := by
  have hl : Tryd.prog.arrayLen 108 = 65 := by kernel_rfl
  have he : Tryd.prog.elem 108 = 5 := by kernel_rfl
  have h := run_sliceAt_array_l (P := Tryd.prog) w 108 ⟨b, 0, none⟩ (by rw [hl, he]; exact Tryd.underlying108) .i64 (i : Int) (by omega) (by rw [hl]; omega)
  rw [h, he, Tryd.sizeOf5, hl]
  simp only [Result.andThen_ok, slicedAt, Int.toNat_natCast]
  rw [if_neg (by omega), Addr.add]
  simp
  omega
theorem conv65 (w : World) (b : Nat) (l : List UInt8) (i : Nat) (hi : i + l.length = 65) (hb : Blk w b 108 (a65 l)) : (convert 32 9 (.slice (some ⟨b, i, none⟩) (65 - i) (65 - i))).run Tryd.prog w = .ok (.string (bt l)) w := by
  have h := run_convert_bytes_arg (P := Tryd.prog) w 32 5 Tryd.underlying32 Tryd.underlying5 b i (65 - i) (65 - i) (l.map fun c => ((c.toNat : Nat) : Int)) (by rw [List.length_map]; omega) (fun j hj => by
    rw [hb.cell, show i + j = 65 - l.length + j by omega, a65_at l (by omega) (show j < l.length by omega)]
    simp [List.getD, show j < l.length by omega]) 9 Tryd.underlying9
  have e : strOfNums (l.map fun c => ((c.toNat : Nat) : Int)) = bt l := by
    unfold strOfNums
    apply bytes_ext
    simp [bt, Function.comp_def]
  rw [h, e]
set_option maxRecDepth 100000 in
set_option maxHeartbeats 6400000 in
theorem bits_8 (n : Nat) (hn : n ≤ 255) {w : World} (h : Tz w) : Calls Tryd.prog 82 #[.slice none 0 0, .int .u64 n, .int .i64 8, .bool false, .bool false] w fun e w' => e = .returned (.tuple #[.slice none 0 0, .string (bt (digs 8 n))]) ∧ Below w.heap.size w w' := by
  have HP := Lib.hid (fun (w' : World) => pow2_8 w')
  have HT := Lib.hid (fun (w' : World) (hb : Below w.heap.size w w') => tz_8 (h.below hb))
  have HB := Lib.hid (fun (o : Obj) => (Below.refl w.heap.size w).alloc (Nat.le_refl _) o)
  clear h
  go_enter Tryd.func82, Tryd.ntmps82
  go_wp2_with fail
  refine (HP.out _).mono ?_
  rintro e w1 ⟨rfl, hw⟩
  have hw1 : w1 = w.alloc (.cells (a65 []) 108) := by rw [hw]; exact congrArg (fun c => w.alloc (.cells c 108)) (show Tryd.zeroCells108 = a65 [] by kernel_rfl)
  subst hw1
  clear hw
  go_wp2_with fail
  refine (HT.out _ (HB.out _)).mono ?_
  rintro e w1 ⟨rfl, hw⟩
  subst hw
  go_wp2_with fail
  go_loopg [1, 13] 4 (fun gh us si wr => ∃ (i u : Nat) (l : List UInt8), us = .int .u64 (u : Nat) ∧ si = .int .i64 (i : Nat) ∧ i + l.length = 65 ∧ (l.length = 0 ∧ u ≤ 255 ∨ l.length = 1 ∧ 1 ≤ u ∧ u ≤ 31 ∨ l.length = 2 ∧ 1 ≤ u ∧ u ≤ 3) ∧ 4 - l.length ≤ gh ∧ Hid (DigR 8 n u l) ∧ Hid (Blk wr w.heap.size 108 (a65 l)) ∧ Hid (Below w.heap.size w wr))
  case atStart => exact ⟨65, n, [], rfl, rfl, rfl, .inl ⟨rfl, hn⟩, by simp, Lib.hid (.inl ⟨rfl, rfl⟩), Lib.hid (Blk.new _ _ _), Lib.hid (HB.out _)⟩
  case round =>
    obtain ⟨i, u, l, rfl, rfl, hil, hu, hg, hd, hk, hb⟩ := hrel
    by_cases h8 : 8 ≤ u
    · have HN := Lib.hid (hd.out.step (by omega) (.inl (by omega)))
      have hl2 : l.length < 2 := by omega
      have hmod : bits BinOp.and IntKind.u64 (u : Int) 7 = ((u % 8 : Nat) : Int) := by
        have h7 : u &&& 7 = u % 8 := Nat.and_two_pow_sub_one_eq_mod u 3
        rw [← h7]; exact u64_and_nat u 7 (by omega) (by omega)
      have hu8 : u % 8 < 8 := by omega
      have HD := Lib.hid (dig36 (u % 8) hu8)
      have hi1 : i - 1 + 1 + l.length = 65 := by omega
      have HK := Lib.hid (show Blk (wr.setCell ⟨w.heap.size, i - 1, none⟩ (.int .u8 (((⟨#[48, 49, 50, 51, 52, 53, 54, 55, 56, 57, 97, 98, 99, 100, 101, 102, 103, 104, 105, 106, 107, 108, 109, 110, 111, 112, 113, 114, 115, 116, 117, 118, 119, 120, 121, 122]⟩ : ByteArray)[u % 8]'(Nat.lt_trans hu8 (by decide))).toNat : Nat))) w.heap.size 108 (a65 (chD (u % 8) :: l)) by
        rw [HD.out]
        have := hk.out.set_ (i - 1) (.int .u8 ((chD (u % 8)).toNat : Nat))
        rwa [a65_set l _ hi1] at this)
      have hfz := hk.out.frozen (i - 1)
      have hcl : wr.cell? ⟨w.heap.size, i - 1, none⟩ = some (.int .u8 0) := by
        rw [hk.out.cell]
        unfold a65
        rw [List.getElem?_toArray, List.getElem?_append_left (by simp; omega), List.getElem?_replicate, if_pos (by omega)]
      have HBN := Lib.hid (hb.out.setCell (p := ⟨w.heap.size, i - 1, none⟩) (Nat.le_refl _) (.int .u8 (((⟨#[48, 49, 50, 51, 52, 53, 54, 55, 56, 57, 97, 98, 99, 100, 101, 102, 103, 104, 105, 106, 107, 108, 109, 110, 111, 112, 113, 114, 115, 116, 117, 118, 119, 120, 121, 122]⟩ : ByteArray)[u % 8]'(Nat.lt_trans hu8 (by decide))).toNat : Nat)))
      have x0 : (8 : Int) ≤ (u : Int) := by omega
      have x1 : (i : Int) - 1 = ((i - 1 : Nat) : Int) := by omega
      have hi2 : i - 1 < 65 := by omega
      clear hd
      go_wp2
      go_roundg (4 - l.length - 1)
      case rel => exact ⟨i - 1, u / 8, chD (u % 8) :: l, by simp, rfl, by simp only [List.length_cons]; omega, by simp only [List.length_cons]; omega, by simp only [List.length_cons]; omega, HN, HK, HBN⟩
      case measure => omega
    · have hu8 : u < 8 := by omega
      have HD := Lib.hid (dig36 u hu8)
      have hi1 : i - 1 + 1 + l.length = 65 := by omega
      have HR := Lib.hid (show chD u :: l = digs 8 n by
        rcases Nat.eq_zero_or_pos u with h0 | h0
        · subst h0
          rcases hd.out with ⟨h1, h2⟩ | ⟨h1, h2⟩
          · rw [h1, ← h2, digs_small (by omega)]
          · exact absurd (List.length_eq_zero_iff.1 (show l.length = 0 by omega)) h1
        · have := hd.out.step (by omega) (.inl h0)
          rw [Nat.mod_eq_of_lt hu8, Nat.div_eq_of_lt hu8] at this
          exact (this.done (by simp)).symm)
      have HK := Lib.hid (show Blk (wr.setCell ⟨w.heap.size, i - 1, none⟩ (.int .u8 (((⟨#[48, 49, 50, 51, 52, 53, 54, 55, 56, 57, 97, 98, 99, 100, 101, 102, 103, 104, 105, 106, 107, 108, 109, 110, 111, 112, 113, 114, 115, 116, 117, 118, 119, 120, 121, 122]⟩ : ByteArray)[u]'(Nat.lt_trans hu8 (by decide))).toNat : Nat))) w.heap.size 108 (a65 (chD u :: l)) by
        rw [HD.out]
        have := hk.out.set_ (i - 1) (.int .u8 ((chD u).toNat : Nat))
        rwa [a65_set l _ hi1] at this)
      have hfz := hk.out.frozen (i - 1)
      have hcl : wr.cell? ⟨w.heap.size, i - 1, none⟩ = some (.int .u8 0) := by
        rw [hk.out.cell]
        unfold a65
        rw [List.getElem?_toArray, List.getElem?_append_left (by simp; omega), List.getElem?_replicate, if_pos (by omega)]
      have HBN := Lib.hid (hb.out.setCell (p := ⟨w.heap.size, i - 1, none⟩) (Nat.le_refl _) (.int .u8 (((⟨#[48, 49, 50, 51, 52, 53, 54, 55, 56, 57, 97, 98, 99, 100, 101, 102, 103, 104, 105, 106, 107, 108, 109, 110, 111, 112, 113, 114, 115, 116, 117, 118, 119, 120, 121, 122]⟩ : ByteArray)[u]'(Nat.lt_trans hu8 (by decide))).toNat : Nat)))
      have x0 : ¬ (8 : Int) ≤ (u : Int) := by omega
      have x1 : (i : Int) - 1 = ((i - 1 : Nat) : Int) := by omega
      have hi2 : i - 1 < 65 := by omega
      have hs1 := fun wx => slice65 wx w.heap.size (i - 1) hi2
      have hs2 := conv65 _ w.heap.size (chD u :: l) (i - 1) (by simp only [List.length_cons]; omega) HK.out
      rw [HR.out] at hs2
      clear hd h8
      go_wp2
      go_ret2
      exact ⟨rfl, HBN.out⟩
set_option maxRecDepth 100000 in
set_option maxHeartbeats 3200000 in
theorem fmtI_8 (n : Nat) (hn : n ≤ 255) {w : World} (h : Tz w) : Calls Tryd.prog 67 #[.int .i64 n, .int .i64 8] w fun e w' => e = .returned (.string (bt (digs 8 n))) ∧ Below w.heap.size w w' := by
  have HF := Lib.hid (bits_8 n hn h)
  have x0 : ¬ (n : Int) < 0 := by omega
  clear h
  go_enter Tryd.func67, Tryd.ntmps67
  go_wp2_with fail
  refine HF.out.mono ?_
  rintro e w1 ⟨rfl, hb⟩
  have HB := Lib.hid hb
  clear hb
  go_wp2
  go_ret
  exact ⟨rfl, HB.out⟩
set_option maxRecDepth 100000 in
set_option maxHeartbeats 3200000 in
theorem fmt8 (n : Nat) (hn : n ≤ 255) {w : World} (h : Tz w) : Calls Tryd.prog 54 #[.int .i64 n, .int .i64 8] w fun e w' => e = .returned (.string (bt (digs 8 n))) ∧ Below w.heap.size w w' := by
  have HF := Lib.hid (fmtI_8 n hn h)
  clear h
  go_enter Tryd.func54, Tryd.ntmps54
  go_wp2_with fail
  refine HF.out.mono ?_
  rintro e w1 ⟨rfl, hb⟩
  have HB := Lib.hid hb
  clear hb
  go_wp2
  go_ret
  exact ⟨rfl, HB.out⟩
end Go.Proofs.YtkiedbanobjmlaaDoor.Lx
