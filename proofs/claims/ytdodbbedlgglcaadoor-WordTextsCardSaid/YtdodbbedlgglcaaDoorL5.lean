/- The walk of the law WordTexts: a numeral's digits, read from the left, make the number. -/
import Derived.Test.YtdodbbedlgglcaaDoorL1
import Derived.Laws.BytesString
set_option linter.unusedSimpArgs false
set_option linter.unusedVariables false
namespace Go.Proofs.YtdodbbedlgglcaaDoor.Wd
open Go.RowKit
open WPlain

/-- The number that a row of digits is. -/
def val (l : List UInt8) : Nat := l.foldl (fun n c => 10 * n + (c.toNat - 48)) 0
theorem val_snoc (l : List UInt8) (c : UInt8) : val (l ++ [c]) = 10 * val l + (c.toNat - 48) := by simp [val]
theorem digit_toNat (n : Nat) (h : n < 10) : (UInt8.ofNat (48 + n)).toNat = 48 + n := by
  rw [UInt8.toNat_ofNat']; omega
theorem val_dec (n : Nat) : val (Lib.decDigits n) = n := by
  induction n using Nat.strongRecOn with
  | ind n ih =>
    by_cases h : 9 < n
    · rw [dec_big n h, val_snoc, ih (n / 10) (by omega), digit_toNat _ (by omega)]; omega
    · rw [dec_small n h]
      show 10 * 0 + ((UInt8.ofNat (48 + n)).toNat - 48) = n
      rw [digit_toNat _ (by omega)]; omega
theorem dec_digits (n : Nat) : ∀ c ∈ Lib.decDigits n, 48 ≤ c.toNat ∧ c.toNat ≤ 57 := by
  induction n using Nat.strongRecOn with
  | ind n ih =>
    intro c hc
    by_cases h : 9 < n
    · rw [dec_big n h, List.mem_append] at hc
      rcases hc with hc | hc
      · exact ih (n / 10) (by omega) c hc
      · rw [List.mem_singleton] at hc
        subst hc
        rw [digit_toNat _ (by omega)]; omega
    · rw [dec_small n h, List.mem_singleton] at hc
      subst hc
      rw [digit_toNat _ (by omega)]; omega
theorem dec_long (k : Nat) : ∀ n, n < 10 ^ (k + 1) → (Lib.decDigits n).length ≤ k + 1 := by
  induction k with
  | zero => intro n h; rw [dec_small n (by omega)]; simp
  | succ k ih =>
    intro n h
    by_cases h9 : 9 < n
    · rw [dec_big n h9]
      have := ih (n / 10) (by rw [Nat.pow_succ] at h; omega)
      simp; omega
    · rw [dec_small n h9]; simp
theorem dec_ne (n : Nat) : Lib.decDigits n ≠ [] := by
  by_cases h : 9 < n
  · rw [dec_big n h]; simp
  · rw [dec_small n h]; simp
theorem val_le : ∀ (k : Nat) (l : List UInt8), l.length = k → (∀ c ∈ l, 48 ≤ c.toNat ∧ c.toNat ≤ 57) → val l < 10 ^ k
  | 0, l, hl, _ => by rw [List.length_eq_zero_iff] at hl; subst hl; simp [val]
  | k + 1, l, hl, h => by
    rcases List.eq_nil_or_concat l with rfl | ⟨l', c, rfl⟩
    · simp at hl
    · rw [List.concat_eq_append] at *
      have h1 := val_le k l' (by simpa using hl) (fun c hc => h c (List.mem_append_left _ hc))
      have h2 := h c (List.mem_append_right _ (List.mem_singleton.2 rfl))
      rw [val_snoc, Nat.pow_succ]
      omega
/-- Unlike words have unlike texts. -/
theorem textN_inj (s : Bool) (a b : Nat) (ha : a < 65536) (hb : b < 65536) (h : textN s a = textN s b) : a = b := by
  unfold textN sg at h
  cases s <;> simp at h
  · omega
  · split at h <;> split at h <;> omega
theorem itoa_inj (x y : Int) (h : Lib.itoa x = Lib.itoa y) : x = y := by
  have key : ∀ (x y : Int), x < 0 → ¬ y < 0 → Lib.itoa x ≠ Lib.itoa y := by
    intro x y hx hy e
    unfold Lib.itoa at e
    rw [if_pos hx, if_neg hy] at e
    have : (45 : UInt8) ∈ Lib.decDigits y.toNat := by rw [← e]; simp
    have := (dec_digits _ _ this).1
    exact absurd this (by decide)
  by_cases hx : x < 0 <;> by_cases hy : y < 0
  · unfold Lib.itoa at h
    rw [if_pos hx, if_pos hy] at h
    have := congrArg val (List.cons.inj h).2
    rw [val_dec, val_dec] at this
    omega
  · exact absurd h (key x y hx hy)
  · exact absurd h.symm (key y x hy hx)
  · unfold Lib.itoa at h
    rw [if_neg hx, if_neg hy] at h
    have := congrArg val h
    rw [val_dec, val_dec] at this
    omega
theorem textP_inj (s : Bool) (a b : Nat) (ha : a < 65536) (hb : b < 65536) (h : textP s a = textP s b) : a = b :=
  textN_inj s a b ha hb (itoa_inj _ _ h)
theorem of_text (s : Bool) (a : Nat) (ha : a < 65536) : ofP (textN s a) = (a, true) := by
  have h1 := textN_bd s a ha
  unfold ofP
  rw [if_neg (by omega)]
  unfold textN sg
  cases s
  · simp; omega
  · simp only [if_true]; split <;> (congr 1; omega)
theorem drop_snoc (s : ByteArray) (k : Nat) (h0 : 1 ≤ k) (h : k < s.size) : s.data.toList.tail.take (k + 1 - 1) = s.data.toList.tail.take (k - 1) ++ [s[k]] := by
  have hl : k < s.data.toList.length := by simpa using h
  obtain ⟨j, rfl⟩ : ∃ j, k = j + 1 := ⟨k - 1, by omega⟩
  rw [show j + 1 + 1 - 1 = j + 1 by omega, show j + 1 - 1 = j by omega, List.take_add_one, List.getElem?_tail, List.getElem?_eq_getElem hl]
  rfl
theorem take_snoc (s : ByteArray) (k : Nat) (h : k < s.size) : s.data.toList.take (k + 1) = s.data.toList.take k ++ [s[k]] := by
  have hl : k < s.data.toList.length := by simpa using h
  rw [List.take_add_one, List.getElem?_eq_getElem hl]
  rfl

set_option maxRecDepth 100000 in
set_option maxHeartbeats 3200000 in
theorem texts_f (a b : Nat) (w : World) (ha : a < 65536) (hb : b < 65536) (hn : textN false a = (a : Int)) (h0 : 0 ≤ a) (ht : Tab w) :
    Calls Tryd.prog 7 #[.int .u16 a, .int .u16 b, .bool false] w fun e w' => e = .returned (.bool true) ∧ Below w.heap.size w w' := by
  have hl := text_pos false a a hn
  have c1 := text_any false a w ha ht
  have c2 := fun w' (h : Tab w') => text_any false b w' hb h
  have c3 := fun w' => of_any (textN false a) w'
  rw [of_text false a ha] at c3
  unfold ofTup at c3
  rw [hn] at c3
  have HT := Lib.hid ht
  obtain ⟨S, hS⟩ : ∃ S : ByteArray, S = ⟨(textP false a).toArray⟩ := ⟨_, rfl⟩
  obtain ⟨B, hB⟩ : ∃ B : ByteArray, B = ⟨(textP false b).toArray⟩ := ⟨_, rfl⟩
  have hSl : S.toList = textP false a := by rw [ByteArray.toList_eq, hS]
  have hBl : B.toList = textP false b := by rw [ByteArray.toList_eq, hB]
  have hlist : S.data.toList = textP false a := by rw [hS]
  have heq : (S.toList == B.toList) = ((a : Int) == (b : Int)) := by
    rw [hSl, hBl, Bool.eq_iff_iff, beq_iff_eq, beq_iff_eq]
    constructor
    · intro h
      have := textP_inj false a b ha hb h
      omega
    · intro h
      rw [show a = b by omega]
  rw [← hS] at c1
  rw [hl] at hlist hSl
  have hsize : S.size = (Lib.decDigits a).length := by
    have := congrArg List.length hlist
    simpa using this
  have hlen := dec_long 4 a (by omega)
  have hpos : 0 < (Lib.decDigits a).length := List.length_pos_iff.2 (dec_ne a)
  have hemp : S.toList.isEmpty = false := by rw [hSl]; simp [dec_ne]
  have hdig := dec_digits a
  have hval := val_dec a
  have H1 := Lib.hid c1
  have H2 : Hid (∀ w', Tab w' → Calls Tryd.prog 16 #[.bool false, .int .u16 b] w' fun e w'_1 => e = .returned (.string B) ∧ Below w'.heap.size w' w'_1) := by rw [hB]; exact Lib.hid c2
  have H3 := Lib.hid c3
  have hdig' : ∀ k (h : k < S.size), 48 ≤ S[k].toNat ∧ S[k].toNat ≤ 57 := by
    intro k h
    have hm : S[k] ∈ S.data.toList := by
      show S.data[k] ∈ _
      simp
    rw [hlist] at hm
    exact hdig _ hm
  have Hdig := Lib.hid hdig'
  have hbd : ∀ k, val (S.data.toList.take k) < 100000 := by
    intro k
    have hc : ∀ c ∈ S.data.toList.take k, 48 ≤ c.toNat ∧ c.toNat ≤ 57 := by
      intro c hc
      have hc' := List.mem_of_mem_take hc
      rw [hlist] at hc'
      exact hdig c hc'
    have h1 := val_le _ _ rfl hc
    have h2 : (S.data.toList.take k).length ≤ 5 := by
      rw [hlist, List.length_take]
      omega
    have h3 := Nat.pow_le_pow_right (n := 10) (by omega) h2
    omega
  have Hbd := Lib.hid hbd
  have HV : Hid (val (S.data.toList.take S.size) = a) := Lib.hid (by rw [List.take_of_length_le (by simp), hlist, hval])
  have Hnext : Hid (∀ k (h : k < S.size), val (S.data.toList.take (k + 1)) = 10 * val (S.data.toList.take k) + (S[k].toNat - 48)) := Lib.hid (by
    intro k h
    rw [take_snoc S k h, val_snoc])
  have hs5 : S.size ≤ 6 := by omega
  have hs0 : 0 < S.size := by omega
  have h0e : ((S[0].toNat : Int) == 45) = false := by
    have := (hdig' 0 hs0).1
    simp; omega
  clear c1 c2 c3 hS hB hBl hSl ht hl hn hdig hval hdig' hbd hlist hsize hlen hpos
  go_enter Tryd.func7, Tryd.ntmps7
  go_wp2_with fail
  ((with_reducible refine H1.out.mono ?_); rintro e x1 ⟨rfl, g1⟩)
  go_wp2_with fail
  ((with_reducible refine (H2.out _ (tab_below HT.out g1)).mono ?_); rintro e x2 ⟨rfl, g2⟩)
  replace g2 := g1.trans (g2.mono g1.size)
  go_wp2
  go_loop [10, 11] (fun n i => ∃ k : Nat, k ≤ S.size ∧ i = .int .i64 k ∧ n = .int .i64 (val (S.data.toList.take k))) (fun _ i => S.size - (intOf i).toNat)
  case atStart => exact ⟨0, Nat.zero_le _, rfl, rfl⟩
  case round =>
    obtain ⟨k, hk, rfl, rfl⟩ := hrel
    by_cases hlt : k < S.size
    · have hd := Hdig.out k hlt
      have hb2 := Hbd.out k
      have HN := Lib.hid (Hnext.out k hlt)
      generalize val (S.data.toList.take k) = v at *
      have d1 : ((S[k].toNat : Int) == 45) = false := by simp; omega
      have d2 : ¬ (S[k].toNat : Int) < 48 := by omega
      have d3 : ¬ 57 < (S[k].toNat : Int) := by omega
      go_wp2
      go_round
      case rel => exact ⟨k + 1, by omega, by go_num, by rw [HN.out]; go_num⟩
      case measure => simp [intOf]; omega
    · have hkS : k = S.size := by omega
      subst hkS
      rw [HV.out]
      go_wp2_with fail
      ((with_reducible refine (H3.out _).mono ?_); rintro e x3 ⟨rfl, rfl⟩)
      go_wp2_with fail
      ((with_reducible refine (alive_any _ (tab_below HT.out g2)).mono ?_); rintro e x ⟨rfl, g⟩)
      replace g := g2.trans (g.mono g2.size)
      go_wp2
      go_ret
      exact ⟨rfl, g⟩

set_option maxRecDepth 100000 in
set_option maxHeartbeats 3200000 in
theorem texts_p (a b N : Nat) (w : World) (ha : a < 65536) (hb : b < 65536) (hN : N < 65536) (hn : textN true a = (N : Int)) (h0 : 0 ≤ N) (ht : Tab w) :
    Calls Tryd.prog 7 #[.int .u16 a, .int .u16 b, .bool true] w fun e w' => e = .returned (.bool true) ∧ Below w.heap.size w w' := by
  have hl := text_pos true a N hn
  have c1 := text_any true a w ha ht
  have c2 := fun w' (h : Tab w') => text_any true b w' hb h
  have c3 := fun w' => of_any (textN true a) w'
  rw [of_text true a ha] at c3
  unfold ofTup at c3
  rw [hn] at c3
  have HT := Lib.hid ht
  have ci := fun w' => int_any a w' ha
  rw [show sg a = _ from hn] at ci
  have CI := Lib.hid ci
  clear ci
  obtain ⟨S, hS⟩ : ∃ S : ByteArray, S = ⟨(textP true a).toArray⟩ := ⟨_, rfl⟩
  obtain ⟨B, hB⟩ : ∃ B : ByteArray, B = ⟨(textP true b).toArray⟩ := ⟨_, rfl⟩
  have hSl : S.toList = textP true a := by rw [ByteArray.toList_eq, hS]
  have hBl : B.toList = textP true b := by rw [ByteArray.toList_eq, hB]
  have hlist : S.data.toList = textP true a := by rw [hS]
  have heq : (S.toList == B.toList) = ((a : Int) == (b : Int)) := by
    rw [hSl, hBl, Bool.eq_iff_iff, beq_iff_eq, beq_iff_eq]
    constructor
    · intro h
      have := textP_inj true a b ha hb h
      omega
    · intro h
      rw [show a = b by omega]
  rw [← hS] at c1
  rw [hl] at hlist hSl
  have hsize : S.size = (Lib.decDigits N).length := by
    have := congrArg List.length hlist
    simpa using this
  have hlen := dec_long 4 N (by omega)
  have hpos : 0 < (Lib.decDigits N).length := List.length_pos_iff.2 (dec_ne N)
  have hemp : S.toList.isEmpty = false := by rw [hSl]; simp [dec_ne]
  have hdig := dec_digits N
  have hval := val_dec N
  have H1 := Lib.hid c1
  have H2 : Hid (∀ w', Tab w' → Calls Tryd.prog 16 #[.bool true, .int .u16 b] w' fun e w'_1 => e = .returned (.string B) ∧ Below w'.heap.size w' w'_1) := by rw [hB]; exact Lib.hid c2
  have H3 := Lib.hid c3
  have hdig' : ∀ k (h : k < S.size), 48 ≤ S[k].toNat ∧ S[k].toNat ≤ 57 := by
    intro k h
    have hm : S[k] ∈ S.data.toList := by
      show S.data[k] ∈ _
      simp
    rw [hlist] at hm
    exact hdig _ hm
  have Hdig := Lib.hid hdig'
  have hbd : ∀ k, val (S.data.toList.take k) < 100000 := by
    intro k
    have hc : ∀ c ∈ S.data.toList.take k, 48 ≤ c.toNat ∧ c.toNat ≤ 57 := by
      intro c hc
      have hc' := List.mem_of_mem_take hc
      rw [hlist] at hc'
      exact hdig c hc'
    have h1 := val_le _ _ rfl hc
    have h2 : (S.data.toList.take k).length ≤ 5 := by
      rw [hlist, List.length_take]
      omega
    have h3 := Nat.pow_le_pow_right (n := 10) (by omega) h2
    omega
  have Hbd := Lib.hid hbd
  have HV : Hid (val (S.data.toList.take S.size) = N) := Lib.hid (by rw [List.take_of_length_le (by simp), hlist, hval])
  have Hnext : Hid (∀ k (h : k < S.size), val (S.data.toList.take (k + 1)) = 10 * val (S.data.toList.take k) + (S[k].toNat - 48)) := Lib.hid (by
    intro k h
    rw [take_snoc S k h, val_snoc])
  have hs5 : S.size ≤ 6 := by omega
  have hs0 : 0 < S.size := by omega
  have h0e : ((S[0].toNat : Int) == 45) = false := by
    have := (hdig' 0 hs0).1
    simp; omega
  clear c1 c2 c3 hS hB hBl hSl ht hl hn hdig hval hdig' hbd hlist hsize hlen hpos
  go_enter Tryd.func7, Tryd.ntmps7
  go_wp2_with fail
  ((with_reducible refine H1.out.mono ?_); rintro e x1 ⟨rfl, g1⟩)
  go_wp2_with fail
  ((with_reducible refine (H2.out _ (tab_below HT.out g1)).mono ?_); rintro e x2 ⟨rfl, g2⟩)
  replace g2 := g1.trans (g2.mono g1.size)
  go_wp2
  go_loop [10, 11] (fun n i => ∃ k : Nat, k ≤ S.size ∧ i = .int .i64 k ∧ n = .int .i64 (val (S.data.toList.take k))) (fun _ i => S.size - (intOf i).toNat)
  case atStart => exact ⟨0, Nat.zero_le _, rfl, rfl⟩
  case round =>
    obtain ⟨k, hk, rfl, rfl⟩ := hrel
    by_cases hlt : k < S.size
    · have hd := Hdig.out k hlt
      have hb2 := Hbd.out k
      have HN := Lib.hid (Hnext.out k hlt)
      generalize val (S.data.toList.take k) = v at *
      have d1 : ((S[k].toNat : Int) == 45) = false := by simp; omega
      have d2 : ¬ (S[k].toNat : Int) < 48 := by omega
      have d3 : ¬ 57 < (S[k].toNat : Int) := by omega
      go_wp2
      go_round
      case rel => exact ⟨k + 1, by omega, by go_num, by rw [HN.out]; go_num⟩
      case measure => simp [intOf]; omega
    · have hkS : k = S.size := by omega
      subst hkS
      rw [HV.out]
      go_wp2_with fail
      ((with_reducible refine (H3.out _).mono ?_); rintro e x3 ⟨rfl, rfl⟩)
      go_wp2_with fail
      ((with_reducible refine (CI.out _).mono ?_); rintro e x3 ⟨rfl, rfl⟩)
      go_wp2_with fail
      ((with_reducible refine (alive_any _ (tab_below HT.out g2)).mono ?_); rintro e x ⟨rfl, g⟩)
      replace g := g2.trans (g.mono g2.size)
      go_wp2
      go_ret
      exact ⟨rfl, g⟩

set_option maxRecDepth 100000 in
set_option maxHeartbeats 3200000 in
theorem texts_n (a b N : Nat) (w : World) (ha : a < 65536) (hb : b < 65536) (hN : N < 65536) (hn : textN true a = -((N : Int))) (h0 : 0 < N) (ht : Tab w) :
    Calls Tryd.prog 7 #[.int .u16 a, .int .u16 b, .bool true] w fun e w' => e = .returned (.bool true) ∧ Below w.heap.size w w' := by
  have hl := text_neg true a N hn h0
  have c1 := text_any true a w ha ht
  have c2 := fun w' (h : Tab w') => text_any true b w' hb h
  have c3 := fun w' => of_any (textN true a) w'
  rw [of_text true a ha] at c3
  unfold ofTup at c3
  rw [hn] at c3
  have HT := Lib.hid ht
  have ci := fun w' => int_any a w' ha
  rw [show sg a = _ from hn] at ci
  have CI := Lib.hid ci
  clear ci
  obtain ⟨S, hS⟩ : ∃ S : ByteArray, S = ⟨(textP true a).toArray⟩ := ⟨_, rfl⟩
  obtain ⟨B, hB⟩ : ∃ B : ByteArray, B = ⟨(textP true b).toArray⟩ := ⟨_, rfl⟩
  have hSl : S.toList = textP true a := by rw [ByteArray.toList_eq, hS]
  have hBl : B.toList = textP true b := by rw [ByteArray.toList_eq, hB]
  have hlist : S.data.toList = textP true a := by rw [hS]
  have heq : (S.toList == B.toList) = ((a : Int) == (b : Int)) := by
    rw [hSl, hBl, Bool.eq_iff_iff, beq_iff_eq, beq_iff_eq]
    constructor
    · intro h
      have := textP_inj true a b ha hb h
      omega
    · intro h
      rw [show a = b by omega]
  rw [← hS] at c1
  rw [hl] at hlist hSl
  have hsize : S.size = (Lib.decDigits N).length + 1 := by
    have := congrArg List.length hlist
    simpa using this
  have hlen := dec_long 4 N (by omega)
  have hpos : 0 < (Lib.decDigits N).length := List.length_pos_iff.2 (dec_ne N)
  have hemp : S.toList.isEmpty = false := by rw [hSl]; rfl
  have hdig := dec_digits N
  have hval := val_dec N
  have H1 := Lib.hid c1
  have H2 : Hid (∀ w', Tab w' → Calls Tryd.prog 16 #[.bool true, .int .u16 b] w' fun e w'_1 => e = .returned (.string B) ∧ Below w'.heap.size w' w'_1) := by rw [hB]; exact Lib.hid c2
  have H3 := Lib.hid c3
  have hdig' : ∀ k (h : k < S.size), 1 ≤ k → 48 ≤ S[k].toNat ∧ S[k].toNat ≤ 57 := by
    intro k h h1
    have hm : S[k] ∈ S.data.toList.tail := by
      rw [List.mem_iff_getElem?]
      exact ⟨k - 1, by rw [List.getElem?_tail, show k - 1 + 1 = k by omega, List.getElem?_eq_getElem (by simpa using h)]; rfl⟩
    rw [hlist] at hm
    exact hdig _ hm
  have Hdig := Lib.hid hdig'
  have hbd : ∀ k, val (S.data.toList.tail.take (k - 1)) < 100000 := by
    intro k
    have hc : ∀ c ∈ S.data.toList.tail.take (k - 1), 48 ≤ c.toNat ∧ c.toNat ≤ 57 := by
      intro c hc
      have hc' := List.mem_of_mem_take hc
      rw [hlist] at hc'
      exact hdig c hc'
    have h1 := val_le _ _ rfl hc
    have h2 : (S.data.toList.tail.take (k - 1)).length ≤ 5 := by
      rw [hlist, List.length_take]
      rw [List.tail_cons]
      omega
    have h3 := Nat.pow_le_pow_right (n := 10) (by omega) h2
    omega
  have Hbd := Lib.hid hbd
  have HV : Hid (val (S.data.toList.tail.take (S.size - 1)) = N) := Lib.hid (by rw [List.take_of_length_le (by simp), hlist, List.tail_cons, hval])
  have Hnext : Hid (∀ k (h : k < S.size), 1 ≤ k → val (S.data.toList.tail.take ((k + 1) - 1)) = 10 * val (S.data.toList.tail.take (k - 1)) + (S[k].toNat - 48)) := Lib.hid (by
    intro k h h1
    rw [drop_snoc S k h1 h, val_snoc])
  have hs5 : S.size ≤ 6 := by omega
  have hs0 : 0 < S.size := by omega
  have h0e : ((S[0].toNat : Int) == 45) = true := by
    have : S.data.toList[0]? = some 45 := by rw [hlist]; rfl
    rw [List.getElem?_eq_getElem (by simpa using hs0)] at this
    have e : S[0] = 45 := Option.some.inj this
    rw [e]; rfl
  clear c1 c2 c3 hS hB hBl hSl ht hl hn hdig hval hdig' hbd hlist hsize hlen hpos
  go_enter Tryd.func7, Tryd.ntmps7
  go_wp2_with fail
  ((with_reducible refine H1.out.mono ?_); rintro e x1 ⟨rfl, g1⟩)
  go_wp2_with fail
  ((with_reducible refine (H2.out _ (tab_below HT.out g1)).mono ?_); rintro e x2 ⟨rfl, g2⟩)
  replace g2 := g1.trans (g2.mono g1.size)
  go_wp2
  go_loop [10, 11] (fun n i => ∃ k : Nat, k ≤ S.size ∧ i = .int .i64 k ∧ n = .int .i64 (val (S.data.toList.tail.take (k - 1)))) (fun _ i => S.size - (intOf i).toNat)
  case atStart => exact ⟨0, Nat.zero_le _, rfl, rfl⟩
  case round =>
    obtain ⟨k, hk, rfl, rfl⟩ := hrel
    by_cases hlt : k < S.size
    · by_cases hk0 : k = 0
      · subst hk0
        have e0 : ((0 : Int) == 0) = true := rfl
        go_wp2
        go_round
        case rel => exact ⟨1, by omega, rfl, rfl⟩
        case measure => simp [intOf]; omega
      · have hd := Hdig.out k hlt (by omega)
        have hb2 := Hbd.out k
        have HN := Lib.hid (Hnext.out k hlt (by omega))
        generalize val (S.data.toList.tail.take (k - 1)) = v at *
        have d1 : ((S[k].toNat : Int) == 45) = false := by simp; omega
        have d2 : ¬ (S[k].toNat : Int) < 48 := by omega
        have d3 : ¬ 57 < (S[k].toNat : Int) := by omega
        go_wp2
        go_round
        case rel => exact ⟨k + 1, by omega, by go_num, by rw [HN.out]; go_num⟩
        case measure => simp [intOf]; omega
    · have hkS : k = S.size := by omega
      subst hkS
      rw [HV.out]
      go_wp2_with fail
      ((with_reducible refine (H3.out _).mono ?_); rintro e x3 ⟨rfl, rfl⟩)
      go_wp2_with fail
      ((with_reducible refine (CI.out _).mono ?_); rintro e x3 ⟨rfl, rfl⟩)
      go_wp2_with fail
      ((with_reducible refine (alive_any _ (tab_below HT.out g2)).mono ?_); rintro e x ⟨rfl, g⟩)
      replace g := g2.trans (g.mono g2.size)
      go_wp2
      go_ret
      exact ⟨rfl, g⟩

theorem texts_law (a0 a1 : Int) (s : Bool) (w : World) (ht : Tab w) (w0 : (Lit.int .u16 a0).wf = true) (w1 : (Lit.int .u16 a1).wf = true) :
    Calls Tryd.prog 7 #[.int .u16 a0, .int .u16 a1, .bool s] w fun e w' => e = .returned (.bool true) ∧ Below w.heap.size w w' := by
  obtain ⟨a, ha, rfl⟩ := wf16 w0
  obtain ⟨b, hb, rfl⟩ := wf16 w1
  cases s
  · exact texts_f a b w ha hb rfl (by omega) ht
  · have := sg_bd a ha
    by_cases h : sg a < 0
    · exact texts_n a b (-(sg a)).toNat w ha hb (by omega) (show sg a = _ from by omega) (by omega) ht
    · exact texts_p a b (sg a).toNat w ha hb (by omega) (show sg a = _ from by omega) (by omega) ht

end Go.Proofs.YtdodbbedlgglcaaDoor.Wd
