/- The walk of the reference's One at a digit. -/
import Derived.Test.YtkiedbanobjmlaaDoorR6
set_option linter.unusedSimpArgs false
set_option linter.unusedVariables false
namespace Go.Proofs.YtkiedbanobjmlaaDoor.Lx
open Go.RowKit
open Pl Fl
attribute [local go_sem] run_store_complexL

theorem runN_all (p : UInt8 → Bool) (l : List UInt8) : ∀ c ∈ l.take (runN p l), p c = true := by
  induction l with
  | nil => simp
  | cons a r ih =>
    cases h : p a
    · rw [runN_no h]; simp
    · rw [runN_yes h, List.take_succ_cons]
      intro c hc
      rcases List.mem_cons.1 hc with rfl | hc
      · exact h
      · exact ih c hc
theorem isX_48 {c : UInt8} (h : isX c = true) : 48 ≤ c.toNat := by
  unfold isX isD at h
  simp only [Bool.or_eq_true, Bool.and_eq_true, decide_eq_true_eq] at h
  omega
theorem isX_of_isD {c : UInt8} (h : isD c = true) : isX c = true := by unfold isX; rw [h]; rfl
theorem not_isL_of_isD {c : UInt8} (h : isD c = true) : isL c = false := by
  unfold isD at h; unfold isL
  simp only [Bool.and_eq_true, decide_eq_true_eq] at h
  simp; omega
theorem take_data (s : ByteArray) (n : Nat) : (s.extract 0 n).data.toList = s.data.toList.take n := by rw [ext_take]; simp [bt]
/-- What is left to do behind the digits: n bytes are taken. -/
structure DigitAt (s : ByteArray) (n : Nat) : Prop where
  len : 1 ≤ (s.extract 0 n).size
  big : (s.extract 0 n).size ≤ 9223372036854775800
  low : ∀ c ∈ (s.extract 0 n).data.toList, 48 ≤ c.toNat
  none : numN (s.extract 0 n).data.toList = none → oneN s.data.toList = .error 41
  some : ∀ t, numN (s.extract 0 n).data.toList = some t → oneN s.data.toList = .ok (t, n)
theorem digit_at (s : ByteArray) (h0 : 0 < s.size) (hs : s.size ≤ 9223372036854775800) (hd : isD s[0] = true) (k n : Nat) (hk : runN isX s.data.toList = k)
    (hn : n = k ∧ s.data.toList[k]? ≠ some 72 ∨ n = k + 1 ∧ s.data.toList[k]? = some 72) : DigitAt s n := by
  have hk1 : 1 ≤ k := by
    have := head_at s h0
    rcases hl : s.data.toList with _ | ⟨a, r⟩
    · rw [hl] at this; cases this
    · rw [hl] at this; injection this with this
      rw [← hk, hl, runN_yes (by rw [this]; exact isX_of_isD hd)]; omega
  have hkl : k ≤ s.data.toList.length := by rw [← hk]; exact runN_le _ _
  have hnl : n ≤ s.data.toList.length := by
    rcases hn with ⟨rfl, _⟩ | ⟨rfl, h⟩
    · exact hkl
    · obtain ⟨h, _⟩ := List.getElem?_eq_some_iff.1 h; omega
  have hsz : (s.extract 0 n).size = n := by simp at hnl ⊢; omega
  have hone : oneN s.data.toList = match numN (s.data.toList.take n) with | none => .error 41 | some t => .ok (t, n) := by
    unfold oneN
    rw [head_at s h0]
    simp only [Option.getD_some, not_isL_of_isD hd, hd, if_true, Bool.false_eq_true, if_false]
    rw [hk]
    rcases hn with ⟨rfl, h⟩ | ⟨rfl, h⟩
    · rw [if_neg h] <;> (cases numN _ <;> rfl)
    · rw [if_pos h] <;> (cases numN _ <;> rfl)
  refine ⟨by rcases hn with ⟨rfl, _⟩ | ⟨rfl, h⟩ <;> omega, by simp at hnl; omega, ?_, ?_, ?_⟩
  · intro c hc
    rw [take_data] at hc
    rcases hn with ⟨rfl, _⟩ | ⟨rfl, h⟩
    · rw [← hk] at hc; exact isX_48 (runN_all _ _ c hc)
    · rw [List.take_add_one, h] at hc
      rcases List.mem_append.1 hc with hc | hc
      · rw [← hk] at hc; exact isX_48 (runN_all _ _ c hc)
      · simp at hc; subst hc; decide
  · intro h; rw [hone]; rw [take_data] at h; rw [h]
  · intro t h; rw [hone]; rw [take_data] at h; rw [h]

set_option maxHeartbeats 6400000 in
theorem One_digit (s : ByteArray) (h0 : 0 < s.size) (hs : s.size ≤ 9223372036854775800) (hc : isD s[0] = true) (w : World) :
    Calls Tryd.prog 29 #[.string s] w fun e w' => oneEnd (oneN s.data.toList) e ∧ Below w.heap.size w w' := by
  have i0 : (0 : Int) < (s.size : Int) := by omega
  have RL := Lib.hid (fun c w => rletter_any c w)
  have RD := Lib.hid (fun c w => rdigit_any c w)
  have hl0 := not_isL_of_isD hc
  have HDA := Lib.hid (digit_at s h0 hs hc)
  go_enter Tryd.func29, Tryd.ntmps29
  go_wp2_with fail
  ((with_reducible refine (RL.out _ _).mono ?_); rintro e w1 ⟨rfl, rfl⟩)
  go_wp2_with fail
  ((with_reducible refine (RD.out _ _).mono ?_); rintro e w1 ⟨rfl, rfl⟩)
  go_wp2_with fail
  go_loop [5] (fun i => ∃ k : Nat, k ≤ s.size ∧ i = .int .i64 k ∧ Hid (runN isX s.data.toList = k + runN isX (s.data.toList.drop k))) (fun i => s.size - (intOf i).toNat)
  case atStart => exact ⟨0, Nat.zero_le _, rfl, Lib.hid (by simp)⟩
  case round =>
    obtain ⟨k, hk, rfl, HB⟩ := hrel
    have x0 : (0 : Int) ≤ (k : Int) := by omega
    have x2 : (k : Int) ≤ (s.size : Int) := by omega
    by_cases hlt : k < s.size
    case' pos =>
      have HD := Lib.hid (drop_cons s k hlt)
      have HA : Hid (s.data.toList[k]? = some s[k]) := Lib.hid (by have := congrArg List.head? HD.out; rw [List.head?_drop] at this; rw [this]; rfl)
      have x1 : (k : Int) < (s.size : Int) := by omega
      go_wp2_with fail
      ((with_reducible refine (RD.out _ _).mono ?_); rintro e w1 ⟨rfl, rfl⟩)
      cases hd : isD s[k]
      case' true =>
        have hP : isX s[k] = true := isX_of_isD hd
        have HN := Lib.hid (show runN isX s.data.toList = (k + 1) + runN isX (s.data.toList.drop (k + 1)) by rw [HB.out, HD.out, runN_yes hP]; omega)
        clear HB HD hP
        go_wp2
        go_round
        case rel => exact ⟨k + 1, by omega, by go_num, HN⟩
        case measure => simp [intOf]; omega
      by_cases hx : 65 ≤ s[k].toNat ∧ s[k].toNat ≤ 70
      case' pos =>
        have hP : isX s[k] = true := by unfold isX; simp; exact .inr hx
        have HN := Lib.hid (show runN isX s.data.toList = (k + 1) + runN isX (s.data.toList.drop (k + 1)) by rw [HB.out, HD.out, runN_yes hP]; omega)
        obtain ⟨hx1, hx2⟩ := hx
        clear HB HD hP
        go_wp2
        go_round
        case rel => exact ⟨k + 1, by omega, by go_num, HN⟩
        case measure => simp [intOf]; omega
      have HK := Lib.hid (show runN isX s.data.toList = k by rw [HB.out, HD.out, runN_no (by unfold isX; rw [hd]; simp; omega)]; rfl)
      clear HD HB
      by_cases h72 : s[k] = 72
      case' pos =>
        have HF := HDA.out k (k + 1) HK.out (.inr ⟨rfl, by rw [HA.out, h72]⟩)
        have y1 : (65 : Int) ≤ (s[k].toNat : Int) := by rw [h72]; decide
        have y2 : ¬ (s[k].toNat : Int) ≤ 70 := by rw [h72]; decide
        have y3 : ((s[k].toNat : Int) == 72) = true := by rw [h72]; rfl
        clear h72 hx HA HDA HK
        go_wp2_with fail
      case' neg =>
        have HF := HDA.out k k HK.out (.inl ⟨rfl, by rw [HA.out]; intro e; injection e with e; exact h72 e⟩)
        have y3 : ((s[k].toNat : Int) == 72) = false := by
          simp only [beq_eq_false_iff_ne, ne_eq]
          exact fun e => h72 (UInt8.toNat_inj.1 (by rw [show (72 : UInt8).toNat = 72 from rfl]; omega))
        clear h72 HA HDA HK
        by_cases h65 : 65 ≤ s[k].toNat
        all_goals
          go_wp2_with fail
    case' neg =>
      have HK := Lib.hid (show runN isX s.data.toList = k by rw [HB.out, List.drop_of_length_le (by simp; omega)]; rfl)
      have HF := HDA.out k k HK.out (.inl ⟨rfl, by rw [List.getElem?_eq_none (by simp; omega)]; simp⟩)
      clear HB HDA HK
      go_wp2_with fail
    all_goals
      (with_reducible refine (number_any _ HF.len HF.big HF.low _).mono ?_)
      rintro e w1 ⟨⟨⟨tk, tt, tn⟩, rfl, ht⟩, hb⟩
      have hz := hb.size
      have hB := (Blk.new w 35 #[.int .u8 0, .complex .f64 0 0, .complex .f64 0 0, .string ⟨#[]⟩, .int .i64 0])
      have hlt1 : w.heap.size < (w.alloc (.cells #[.int .u8 0, .complex .f64 0 0, .complex .f64 0 0, .string ⟨#[]⟩, .int .i64 0] 35)).heap.size := by rw [World.size_alloc]; exact Nat.lt_succ_self _
      have hB := hB.below hb hlt1
      have hBl : Hid (Below w.heap.size w w1) := Lib.hid (((Below.refl w.heap.size w).alloc (Nat.le_refl _) _).trans (hb.mono (Nat.le_of_lt hlt1)))
      obtain ⟨m0, m1, m2, m3, m4, f0, f1, f2, f3, f4⟩ := hB.tok
      have HBK := Lib.hid hB
      have HT := Lib.hid ht
      have HFN := Lib.hid HF.none
      have HFS := Lib.hid HF.some
      have hlt0 : w.heap.size < w1.heap.size := by omega
      clear hB hb ht HF hz hlt1
      simp only [Tk.val, Tk.vals, C, fl_0]
      generalize numN _ = NN at *
      cases NN with
      | none =>
        have HE := HFN.out rfl
        have HE2 := Lib.hid HE
        clear HE HFN HFS HT
        simp only [Option.isSome_none]
        go_wp2
        (try simp only [Exit.inBlock, Exit.then])
        refine bodyPost_ret (tok_ret3 rfl _ _ w.heap.size _ _ _ _ _ rfl ((tok_stored HBK.out _ _ _ _ _).alloc _)) rfl ?_
        exact ⟨by rw [HE2.out]; simp [oneEnd, noTk, Tk.val, Tk.vals, C, fl_0], (below_stored hBl.out (Nat.le_refl _) _ _ _ _ _).alloc (by simp only [World.size_setCell]; exact Nat.le_of_lt hlt0) _⟩
      | some t =>
        have HE := HFS.out _ rfl
        have ht := HT.out _ rfl
        subst ht
        have HE2 := Lib.hid HE
        clear HE HFN HFS HT
        simp only [Option.isSome_some]
        go_wp2
        (try simp only [Exit.inBlock, Exit.then])
        refine bodyPost_ret (tok_ret3 rfl _ _ w.heap.size _ _ _ _ _ rfl ((tok_stored HBK.out _ _ _ _ _).alloc _)) rfl ?_
        exact ⟨by rw [HE2.out]; simp [oneEnd, Tk.val, Tk.vals, C, fl_0], (below_stored hBl.out (Nat.le_refl _) _ _ _ _ _).alloc (by simp only [World.size_setCell]; exact Nat.le_of_lt hlt0) _⟩
end Go.Proofs.YtkiedbanobjmlaaDoor.Lx
