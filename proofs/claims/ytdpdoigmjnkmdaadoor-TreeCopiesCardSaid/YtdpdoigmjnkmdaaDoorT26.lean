/- The walk of a reader's head, where it has its numbers. -/
import Derived.Test.YtdpdoigmjnkmdaaDoorT25
import Derived.Deep.Cut
import Derived.Deep.RegionHeld3
set_option linter.unusedSimpArgs false
set_option linter.unusedVariables false
namespace Go.Proofs.YtdpdoigmjnkmdaaDoor.Tr
open Go.RowKit
open Fl
attribute [local go_sem] run_store_complex

theorem ext_to (s : ByteArray) (k : Nat) : (s.extract 0 k) = ⟨(s.data.toList.take k).toArray⟩ := by
  apply ByteArray.ext
  apply Array.toList_inj.1
  rw [Pl.ext_to]
theorem ext_from (s : ByteArray) (k : Nat) : (s.extract k s.size) = ⟨(s.data.toList.drop k).toArray⟩ := by
  apply ByteArray.ext
  apply Array.toList_inj.1
  rw [Pl.ext_from]
theorem up_idx : ∀ l : List UInt8, (upTo l = none ∧ Lib.indexByte l 32 = -1 ∧ Lib.indexByte l 41 = -1) ∨ ∃ a r, upTo l = some (a, r) ∧ a.length ≤ l.length ∧
    ((Lib.indexByte l 32 = a.length ∧ (Lib.indexByte l 41 = -1 ∨ (a.length : Int) < Lib.indexByte l 41)) ∨ (Lib.indexByte l 41 = a.length ∧ (Lib.indexByte l 32 = -1 ∨ (a.length : Int) < Lib.indexByte l 32)))
  | [] => .inl ⟨rfl, rfl, rfl⟩
  | c :: r => by
    have ih := up_idx r
    have g1 := Lib.indexByte_ge r 32
    have g2 := Lib.indexByte_ge r 41
    unfold upTo Lib.indexByte
    by_cases h1 : c = 32
    · subst h1
      refine .inr ⟨[], 32 :: r, by simp, by simp, .inl ⟨by simp, ?_⟩⟩
      have e : ((32 : UInt8) == 41) = false := by decide
      rw [e]
      simp only [Bool.false_eq_true, ↓reduceIte, beq_iff_eq, List.length_nil]
      split
      · exact .inl rfl
      · right; omega
    · by_cases h2 : c = 41
      · subst h2
        refine .inr ⟨[], 41 :: r, by simp, by simp, .inr ⟨by simp, ?_⟩⟩
        have e : ((41 : UInt8) == 32) = false := by decide
        rw [e]
        simp only [Bool.false_eq_true, ↓reduceIte, beq_iff_eq, List.length_nil]
        split
        · exact .inl rfl
        · right; omega
      · have e1 : (c == 32) = false := by simpa using h1
        have e2 : (c == 41) = false := by simpa using h2
        rw [if_neg (by simp [h1, h2]), e1, e2]
        simp only [Bool.false_eq_true, ↓reduceIte, beq_iff_eq]
        rcases ih with ⟨i1, i2, i3⟩ | ⟨a, b, i1, i0, i2⟩
        · refine .inl ⟨by rw [i1]; rfl, by rw [if_pos i2], by rw [if_pos i3]⟩
        · refine .inr ⟨c :: a, b, by rw [i1]; rfl, by simp; omega, ?_⟩
          rcases i2 with ⟨j1, j2⟩ | ⟨j1, j2⟩
          · refine .inl ⟨by rw [if_neg (by omega), j1]; simp, ?_⟩
            rcases j2 with j2 | j2
            · left; rw [if_pos j2]
            · right; rw [if_neg (by omega)]; simp; omega
          · refine .inr ⟨by rw [if_neg (by omega), j1]; simp, ?_⟩
            rcases j2 with j2 | j2
            · left; rw [if_pos j2]
            · right; rw [if_neg (by omega)]; simp; omega
theorem Env.far {w w' : World} {q g : Nat} (h : Env w q) (hg : w.grownBy w' (some g)) (h6 : 6 ≤ g) : Env w' q :=
  have k : Env w' g := Env.keep ⟨h.mx, h.tabs, h6⟩ hg
  ⟨k.mx, k.tabs, h.low⟩
theorem dash_is (a : List UInt8) : (!(⟨a.toArray⟩ : ByteArray).toList == [45]) = !decide (a = [45]) := by
  rw [ByteArray.toList_eq]
  have h : (a == [45]) = decide (a = [45]) := by rw [Bool.eq_iff_iff]; simp
  simp only [List.toList_toArray, h]
theorem held_k {x y B : World} {b : Nat} {v : Value} (h : x.cell? ⟨b, 0, none⟩ = some v ∧ Below B.heap.size B x) (hb : Below x.heap.size x y) : y.cell? ⟨b, 0, none⟩ = some v ∧ Below B.heap.size B y :=
  ⟨(hb.cell (p := ⟨b, 0, none⟩) (cell_lt h.1)).trans h.1, h.2.trans (hb.mono h.2.size)⟩
theorem held_bx {x B : World} {b : Nat} {v : Value} (h : x.cell? ⟨b, 0, none⟩ = some v ∧ Below B.heap.size B x) : Below B.heap.size B x := h.2
theorem index_le : ∀ (l : List UInt8) (c : UInt8), Lib.indexByte l c ≤ l.length
  | [], c => by simp [Lib.indexByte]
  | b :: r, c => by
    have := index_le r c
    unfold Lib.indexByte
    simp only [List.length_cons]
    split
    · omega
    · split <;> omega
theorem not_cons {l : List UInt8} {s : UInt8} (h : ¬ ∃ r, l = s :: r) : ∀ r, l ≠ s :: r := fun r e => h ⟨r, e⟩
/-- What head answers where there is one. -/
def IsHead (w : World) (b : Nat) (n : Int) (d : Nd) (r : List UInt8) (e : Ending) (w' : World) : Prop := ∃ u, e = .returned (.tuple #[.pointer (some ⟨u, 0, none⟩), .bool true]) ∧ RS w w' b r n ∧ Blk w' u 46 (cellsN d (.slice none 0 0)) ∧ w.heap.size ≤ u
/-- What head answers, of a node whose numbers, and place, are known; l: what stands behind its name. -/
def HeadR (w : World) (b : Nat) (n : Int) (k : Nat) (p : Option (Nat × Nat)) (nm : List UInt8) (l : List UInt8) (e : Ending) (w' : World) : Prop :=
  NoHead w b n e w' ∧ (p = none ∨ (∀ r, l ≠ 32 :: r) ∨ ∃ r, l = 32 :: r ∧ (upTo r = none ∨ ∃ a z, upTo r = some (a, z) ∧ numOf a = none)) ∨
  ∃ q r a z v, p = some q ∧ l = 32 :: r ∧ upTo r = some (a, z) ∧ numOf a = some v ∧ IsHead w b n ⟨k, q, ⟨nm.toArray⟩, v⟩ z e w'
set_option maxRecDepth 100000 in
set_option maxHeartbeats 12800000 in
theorem head_try (b : Nat) (l : List UInt8) (n : Int) (w : World) (k m : Nat) (l1 a2 l2 l3 : List UInt8) (hk2 : k ≤ 255) (hl1 : l1.length ≤ 1000000000) (hl3 : l3.length ≤ 1000000000) (hb0 : Hid (b < w.heap.size)) (hc2 : cutAt 32 l1 = some (a2, l2)) (ha2 : a2.length ≤ 1000000000) (hm : m ≤ l3.length)
    (c : Hid (Calls Tryd.prog 41 #[.pointer (some ⟨b, 0, none⟩), .string ⟨#[32]⟩] w fun e w' => e = .returned (.tuple #[.int .i64 k, .bool true]) ∧ RS w w' b l1 n))
    (c3 : Hid (∀ w1, Rd w1 b l2 n → Env w1 b → Calls Tryd.prog 41 #[.pointer (some ⟨b, 0, none⟩), .string ⟨#[58]⟩] w1 fun e w' => e = .returned (.tuple #[.int .i64 m, .bool true]) ∧ RS w1 w' b l3 n)) :
    Calls Tryd.prog 32 #[.pointer (some ⟨b, 0, none⟩)] w (HeadR w b n k (posOf a2) (l3.take m) (l3.drop m)) := by
  have HC2 := Lib.hid hc2
  clear hc2
  have hsz := bsize l3
  go_enter Tryd.func32, Tryd.ntmps32
  go_wp2_with fail
  ((with_reducible refine c.out.mono ?_); rintro e w1 ⟨rfl, hs1⟩)
  have H1 := Lib.hid hs1
  clear hs1
  go_wp2_with fail
  ((with_reducible refine (cut_y 32 b l1 n w1 a2 l2 hl1 H1.out.rd H1.out.env HC2.out).mono ?_); rintro e w2 ⟨rfl, hs2⟩)
  have H2 := Lib.hid (H1.out.trans hs2)
  clear hs2
  have hdash := dash_is a2
  have hz2 := bsize a2
  have C43 := Lib.hid (fun w' => Pl.Read_any ⟨a2.toArray⟩ w' (by rw [hz2]; omega))
  rw [show (⟨a2.toArray⟩ : ByteArray).data.toList = a2 by simp] at C43
  unfold Pl.readTup Pl.C at C43
  generalize (⟨a2.toArray⟩ : ByteArray) = ab at *
  go_wp2_with fail
  ((with_reducible refine (c3.out w2 H2.out.rd H2.out.env).mono ?_); rintro e w3 ⟨rfl, hs3⟩)
  have H3 := Lib.hid (H2.out.trans hs3)
  clear hs3
  have hc0 := Blk.cell H3.out.rd 0
  have hf0 := Blk.frozen H3.out.rd 0
  simp only [List.getElem?_toArray, List.getElem?_cons_zero] at hc0
  have HSF := Lib.hid (show (⟨l3.toArray⟩ : ByteArray).extract m l3.length = ⟨(l3.drop m).toArray⟩ by have := ext_from ⟨l3.toArray⟩ m; rw [hsz] at this; simpa using this)
  have HST := Lib.hid (show (⟨l3.toArray⟩ : ByteArray).extract 0 m = ⟨(l3.take m).toArray⟩ by simpa using ext_to ⟨l3.toArray⟩ m)
  generalize hlb : (⟨l3.toArray⟩ : ByteArray) = lb at *
  go_upto_region 7 with (fail)
  have hbk := Blk.new w3 46 #[.int .u8 k, .complex .f64 0 0, .string (lb.extract 0 m), .int .i64 0, .slice none 0 0]
  have hbl : Below w3.heap.size w3 (w3.alloc (.cells #[.int .u8 k, .complex .f64 0 0, .string (lb.extract 0 m), .int .i64 0, .slice none 0 0] 46)) := (Below.refl _ _).alloc (Nat.le_refl _) _
  have H4 := Lib.hid (H3.out.below hbl)
  clear hc0 hf0 hbl
  have hne : b ≠ w3.heap.size := by have := Blk.lt H3.out.rd; omega
  generalize w3.alloc (.cells #[.int .u8 k, .complex .f64 0 0, .string (lb.extract 0 m), .int .i64 0, .slice none 0 0] 46) = w4 at *
  have hlow : w.heap.size ≤ w3.heap.size := H3.out.on.size
  generalize w3.heap.size = u at *
  have HB4 := Lib.hid hbk
  clear hbk
  have hc0 := Blk.cell H4.out.rd 0
  have hf0 := Blk.frozen H4.out.rd 0
  simp only [List.getElem?_toArray, List.getElem?_cons_zero] at hc0
  rw [hlb] at hc0
  have HLB := Lib.hid hlb
  clear hlb
  have H5 := Lib.hid (H4.out.set (l3.drop m))
  rw [← HSF.out] at H5
  have HB5 := Lib.hid (Blk.far (p := ⟨b, 0, none⟩) HB4.out (Ne.symm hne) (.string (lb.extract m l3.length)))
  have hul : w.heap.size ≤ u := hlow
  have hblt : b < w.heap.size := hb0.out
  by_cases hA : a2 = [45]
  case' pos =>
    rw [decide_eq_true hA] at hdash
    have HP := Lib.hid (show posOf a2 = some (0, 0) by rw [hA]; simp [posOf])
    have HBk := Lib.hid (show Blk (w4.setCell ⟨b, 0, none⟩ (.string (lb.extract m l3.length))) u 46 (cellsN ⟨k, (0, 0), ⟨(l3.take m).toArray⟩, 0⟩ (.slice none 0 0)) by
      have := HB5.out
      rw [HST.out] at this
      unfold cellsN C; simp only [fl_0]; exact this)
    have HR := H5
    clear hA HB5 HB4 H5 C43
    generalize ((0, 0) : Nat × Nat) = p at *
    go_wp2_with fail
    generalize w4.setCell ⟨b, 0, none⟩ (.string (lb.extract m l3.length)) = wr at *
    clear hc0 hf0 H4
  case' neg =>
    rw [decide_eq_false hA] at hdash
    have HP := Lib.hid (show posOf a2 = if Pl.isN (Pl.readN a2) then some (Pl.readN a2) else none by unfold posOf; rw [if_neg hA])
    clear hA
    generalize Pl.readN a2 = p at *
    go_wp2_with fail
    ((with_reducible refine (C43.out _ H5.out.env.tabs).mono ?_); rintro e w6 ⟨rfl, hb6⟩)
    have H6 := Lib.hid (H5.out.below hb6)
    have HB6 := Lib.hid (HB5.out.below hb6 HB5.out.lt)
    clear hb6 hc0 hf0 H4 HB4 C43
    cases hn : Pl.isN p
    case' false =>
      rw [hn] at HP
      go_wp2
      go_ret2
      exact .inl ⟨⟨rfl, _, H6.out, by simp; omega⟩, .inl HP.out⟩
    rw [hn] at HP
    have hc61 := HB6.out.cell 1
    have hf61 := HB6.out.frozen 1
    simp only [List.getElem?_toArray, List.getElem?_cons_zero, List.getElem?_cons_succ] at hc61
    have HR := Lib.hid (show RS w (w6.setCell ⟨u, 1, none⟩ (.complex .f64 (fl p.1) (fl p.2))) b (l3.drop m) n from
      ⟨Blk.far H6.out.rd (p := ⟨u, 1, none⟩) hne _, on_new H6.out.on (on_set w6 u 1 _) hul, H6.out.env.far (on_set w6 u 1 _) (by have := H6.out.env.low; have := hblt; omega)⟩)
    have HBk := Lib.hid (show Blk (w6.setCell ⟨u, 1, none⟩ (.complex .f64 (fl p.1) (fl p.2))) u 46 (cellsN ⟨k, p, ⟨(l3.take m).toArray⟩, 0⟩ (.slice none 0 0)) by
      have := HB6.out.set_ 1 (.complex .f64 (fl p.1) (fl p.2))
      rw [HST.out] at this
      exact this)
    clear H5 HB5 hn H6 HB6
    go_wp2_with fail
    generalize w6.setCell ⟨u, 1, none⟩ (.complex .f64 (fl p.1) (fl p.2)) = wr at *
    clear hc61 hf61
  all_goals
    obtain ⟨l4, hl4⟩ : ∃ l4, l4 = l3.drop m := ⟨_, rfl⟩
    rw [← hl4] at HR
    have hl4l : l4.length ≤ 1000000000 := by rw [hl4]; simp; omega
    have HL4 := Lib.hid hl4
    clear hl4 HSF HST
    by_cases h32 : ∃ r, l4 = 32 :: r
    case' neg =>
      have HN := Lib.hid (not_cons h32)
      ((with_reducible refine (eat_n b l4 n 32 wr HR.out.rd HN.out).mono ?_); rintro e w7 ⟨rfl, rfl⟩)
      go_wp2
      go_ret2
      exact .inl ⟨⟨rfl, _, HR.out, hl4l⟩, .inr (.inl (by rw [← HL4.out]; exact HN.out))⟩
    obtain ⟨l5, rfl⟩ := h32
    ((with_reducible refine (eat_y b l5 n 32 wr HR.out.rd HR.out.env).mono ?_); rintro e w7 ⟨rfl, hs7⟩)
    have H7 := Lib.hid (HR.out.trans hs7)
    have HB7 := Lib.hid (HBk.out.grown hs7.on (by simpa using Ne.symm hne))
    clear hs7 HR HBk
    have hc7 := Blk.cell H7.out.rd 0
    have hf7 := Blk.frozen H7.out.rd 0
    simp only [List.getElem?_toArray, List.getElem?_cons_zero] at hc7
    have C44a := Lib.hid (fun w' => Tryd.strings_IndexByte ⟨l5.toArray⟩ 32 w')
    have C44b := Lib.hid (fun w' => Tryd.strings_IndexByte ⟨l5.toArray⟩ 41 w')
    have e1 : (⟨l5.toArray⟩ : ByteArray).data.toList = l5 := by simp
    rw [e1, show (32 : Int).toNat.toUInt8 = 32 from rfl] at C44a
    rw [e1, show (41 : Int).toNat.toUInt8 = 41 from rfl] at C44b
    have hz5 := bsize l5
    have hl5l : l5.length ≤ 1000000000 := by simp at hl4l; omega
    clear e1 hl4l
    have HI := up_idx l5
    have hb1 : Lib.indexByte l5 32 ≤ 1000000000 := by have := index_le l5 32; omega
    have hb2 : Lib.indexByte l5 41 ≤ 1000000000 := by have := index_le l5 41; omega
    generalize Lib.indexByte l5 32 = i0 at *
    generalize Lib.indexByte l5 41 = k0 at *
    rcases HI with ⟨hu0, rfl, rfl⟩ | ⟨a6, l6, hu, hal, HI⟩
    case' inl =>
      have HU := Lib.hid hu0
      clear hu0
      generalize hlb5 : (⟨l5.toArray⟩ : ByteArray) = lb5 at *
      have HLB5 := Lib.hid hlb5
      clear hlb5
      go_wp2_with fail
      ((with_reducible refine (C44a.out _).mono ?_); rintro e w' ⟨rfl, rfl⟩)
      go_wp2_with fail
      ((with_reducible refine (C44b.out _).mono ?_); rintro e w' ⟨rfl, rfl⟩)
      go_wp2
      go_ret2
      exact .inl ⟨⟨rfl, _, H7.out, hl5l⟩, .inr (.inr ⟨l5, HL4.out.symm, .inl HU.out⟩)⟩
    have HU := Lib.hid hu
    have ua := (upTo_some hu).1
    have HSL := Lib.hid (show (⟨l5.toArray⟩ : ByteArray).extract 0 a6.length = ⟨a6.toArray⟩ by
      have := ext_to ⟨l5.toArray⟩ a6.length
      rw [this, ua]; simp)
    have HSR := Lib.hid (show (⟨l5.toArray⟩ : ByteArray).extract a6.length l5.length = ⟨l6.toArray⟩ by
      have := ext_from ⟨l5.toArray⟩ a6.length
      rw [bsize] at this
      rw [this, ua]; simp)
    have h6l : l6.length ≤ 1000000000 := by rw [ua] at hl5l; simp at hl5l; omega
    clear hu ua
    generalize hlb5 : (⟨l5.toArray⟩ : ByteArray) = lb5 at *
    have HLB5 := Lib.hid hlb5
    have hz6 := bsize a6
    have hcn : numOf a6 = match Lib.atoiAll a6 with
      | .ok v => if Lib.itoa v = a6 then some v else none
      | _ => none := rfl
    clear hlb5
    have C45a := fun v w' (h : Lib.atoiAll a6 = .ok v) => parse_good ⟨a6.toArray⟩ v w' (by rw [hz6]; omega) (by simpa using h)
    have C45b := fun w' (h : ∀ v, Lib.atoiAll a6 ≠ .ok v) => parse_bad ⟨a6.toArray⟩ w' (by rw [hz6]; omega) (by simpa using h)
    rw [← HSL.out] at C45a C45b
    have D45a := Lib.hid C45a
    have D45b := Lib.hid C45b
    have HCN := Lib.hid hcn
    clear C45a C45b hcn hz6
    generalize hn6 : a6.length = n6 at *
    rcases HI with ⟨rfl, rfl | hI⟩ | ⟨rfl, rfl | hI⟩
    all_goals
      go_wp2_with fail
      ((with_reducible refine (C44a.out _).mono ?_); rintro e w' ⟨rfl, rfl⟩)
      go_wp2_with fail
      ((with_reducible refine (C44b.out _).mono ?_); rintro e w' ⟨rfl, rfl⟩)
      clear C44a C44b hb1 hb2
      go_wp2_with fail
    all_goals
      by_cases hv : ∃ v, Lib.atoiAll a6 = .ok v
      case' neg =>
        have HV := Lib.hid (show ∀ v, Lib.atoiAll a6 ≠ .ok v from fun v e => hv ⟨v, e⟩)
        clear hv
        ((with_reducible refine (D45b.out _ HV.out H7.out.env.tabs).mono ?_); rintro e w8 ⟨z, N, rfl, hb8⟩)
        have H8 := Lib.hid (H7.out.below hb8)
        clear hb8 hc7 hf7
        have hc8 := Blk.cell H8.out.rd 0
        simp only [List.getElem?_toArray, List.getElem?_cons_zero] at hc8
        rw [HLB5.out] at hc8
        go_wp2
        go_quiet (fail)
        go_wp2
        go_ret2
        exact .inl ⟨⟨rfl, _, H8.out.drewN _, hl5l⟩, .inr (.inr ⟨l5, HL4.out.symm, .inr ⟨a6, l6, HU.out, by
          rw [HCN.out]
          cases h : Lib.atoiAll a6
          · exact absurd h (HV.out _)
          all_goals rfl⟩⟩)⟩
      case' pos =>
        obtain ⟨v, hv⟩ := hv
        have HV := Lib.hid hv
        have hr := atoi_range hv
        have HC := HCN.out
        rw [hv] at HC
        simp only at HC
        have HC36 := fun w' => format_any v w' hr
        clear hv
        ((with_reducible refine (D45a.out _ _ HV.out).mono ?_); rintro e w8 ⟨rfl, hb8⟩)
        have H8 := Lib.hid (H7.out.below hb8)
        have HB8 := Lib.hid (HB7.out.below hb8 HB7.out.lt)
        clear hb8 hc7 hf7
        have hc8 := Blk.cell H8.out.rd 0
        have hf8 := Blk.frozen H8.out.rd 0
        simp only [List.getElem?_toArray, List.getElem?_cons_zero] at hc8
        rw [HLB5.out] at hc8
        by_cases hi : Lib.itoa v = a6
        case' pos =>
          rw [if_pos hi] at HC
          rw [hi, ← HSL.out] at HC36
          have HN6 := Lib.hid HC
          have D36 := Lib.hid HC36
          clear HC HC36 hi
          go_wp2
          have HD0 : w8.drew.cell? ⟨b, 0, none⟩ = some (.string lb5) ∧ Below w8.heap.size w8 w8.drew := ⟨hc8, (Below.refl _ _).drew⟩
          go_region_held3 (fun x => x.cell? ⟨b, 0, none⟩ = some (.string lb5) ∧ Below w8.heap.size w8 x)
            ((first | (with_reducible exact HD0) | (with_reducible assumption) | (refine held_k ?_ (by assumption) <;> assumption)))
            ((first | (go_at_call 36; (with_reducible refine (D36.out _ (Pl.tabs_below H8.out.env.tabs (held_bx (by assumption)))).mono ?_); rintro e w' ⟨rfl, hbb⟩)))
          have hH := held_bx (by assumption)
          rename_i hHeld
          clear hHeld HD0
          have H9 := Lib.hid (H8.out.below hH)
          have HB9 := Lib.hid (HB8.out.below hH HB8.out.lt)
          clear hH hc8 hf8
          have hc9 := Blk.cell H9.out.rd 0
          have hf9 := Blk.frozen H9.out.rd 0
          simp only [List.getElem?_toArray, List.getElem?_cons_zero] at hc9
          rw [HLB5.out] at hc9
          have hc93 := HB9.out.cell 3
          have hf93 := HB9.out.frozen 3
          simp only [cellsN, List.getElem?_toArray, List.getElem?_cons_zero, List.getElem?_cons_succ] at hc93
          go_wp2
          go_ret2
          refine .inr ⟨p, l5, a6, l6, v, by simpa using HP.out, HL4.out.symm, HU.out, HN6.out, u, rfl, ?_, ?_, hul⟩
          · rw [HSR.out]
            have hx : RS w (_) b l5 n := ⟨Blk.far H9.out.rd (p := ⟨u, 3, none⟩) hne (.int .i64 v), on_new H9.out.on (on_set _ u 3 _) hul, H9.out.env.far (on_set _ u 3 _) (by have := H9.out.env.low; omega)⟩
            exact hx.set l6
          · exact (HB9.out.set_ 3 (.int .i64 v)).far (p := ⟨b, 0, none⟩) (Ne.symm hne) _
        case' neg =>
          rw [if_neg hi] at HC
          have HN6 := Lib.hid HC
          have HC36' := HC36
          have HNE := Lib.hid (show ¬ (⟨(Lib.itoa v).toArray⟩ : ByteArray).toList = (lb5.extract 0 n6).toList by
            rw [ByteArray.toList_eq, ByteArray.toList_eq, HSL.out]
            simpa using hi)
          clear HC HC36 hi
          generalize (⟨(Lib.itoa v).toArray⟩ : ByteArray) = vb at *
          have D36 := Lib.hid HC36'
          clear HC36'
          go_wp2
          have hne36 : (!vb.toList == (lb5.extract 0 n6).toList) = true := by simpa using HNE.out
          have HD0 : w8.drew.cell? ⟨b, 0, none⟩ = some (.string lb5) ∧ Below w8.heap.size w8 w8.drew := ⟨hc8, (Below.refl _ _).drew⟩
          go_region_held3 (fun x => x.cell? ⟨b, 0, none⟩ = some (.string lb5) ∧ Below w8.heap.size w8 x)
            ((first | (with_reducible exact HD0) | (with_reducible assumption) | (refine held_k ?_ (by assumption) <;> assumption)))
            ((first | (go_at_call 36; (with_reducible refine (D36.out _ (Pl.tabs_below H8.out.env.tabs (held_bx (by assumption)))).mono ?_); rintro e w' ⟨rfl, hbb⟩)))
          have hH := held_bx (by assumption)
          rename_i hHeld
          clear hHeld HD0
          have H9 := Lib.hid (H8.out.below hH)
          clear hH hc8 hf8
          go_wp2
          go_ret2
          exact .inl ⟨⟨rfl, _, H9.out, hl5l⟩, .inr (.inr ⟨l5, HL4.out.symm, .inr ⟨a6, l6, HU.out, HN6.out⟩⟩)⟩
end Go.Proofs.YtdpdoigmjnkmdaaDoor.Tr
