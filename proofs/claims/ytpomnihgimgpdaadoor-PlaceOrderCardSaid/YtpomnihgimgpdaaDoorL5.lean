/- The walk of the law PlaceBack. -/
import Derived.Test.YtpomnihgimgpdaaDoorL4
import Derived.Deep.QuietTactic
import Derived.BigQuiet
set_option linter.unusedSimpArgs false
set_option linter.unusedVariables false
namespace Go.Proofs.YtpomnihgimgpdaaDoor.Pl
open Go.RowKit
open Fl
open Num

/-- One place comes ahead of another. -/
def ltN (a b : Nat × Nat) : Prop := a.1 < b.1 ∨ a.1 = b.1 ∧ a.2 < b.2
theorem ltN_trans {a b c : Nat × Nat} (h : ltN a b) (h' : ltN b c) : ltN a c := by unfold ltN at *; omega
theorem ltN_ne {a b : Nat × Nat} (h : ltN a b) : a ≠ b := by intro e; subst e; unfold ltN at h; omega
theorem ltN_step (a : Nat × Nat) (c : UInt8) : ltN a (stepN a c) := by unfold ltN stepN; split <;> simp
theorem ltN_fold : ∀ (l : List UInt8) (a : Nat × Nat), l ≠ [] → ltN a (l.foldl stepN a)
  | [], _, h => absurd rfl h
  | [c], a, _ => ltN_step a c
  | c :: d :: l, a, _ => ltN_trans (ltN_step a c) (ltN_fold (d :: l) (stepN a c) (by simp))
theorem behN_fold : ∀ (l : List UInt8) (a : Nat × Nat), 1 ≤ a.1 → 1 ≤ a.2 → a.1 + l.length ≤ 1000000 → a.2 + l.length ≤ 1000000 →
    behN a l = l.foldl stepN a ∧ 1 ≤ (l.foldl stepN a).1 ∧ 1 ≤ (l.foldl stepN a).2 ∧ (l.foldl stepN a).1 ≤ 1000000 ∧ (l.foldl stepN a).2 ≤ 1000000
  | [], a, h1, h2, h3, h4 => by
    simp only [List.length_nil, Nat.add_zero] at h3 h4
    refine ⟨?_, h1, h2, h3, h4⟩
    simp only [behN, List.foldl_nil]
    rw [if_pos (by unfold isN inN; simp; omega)]
  | c :: l, a, h1, h2, h3, h4 => by
    simp only [List.length_cons] at h3 h4
    rw [behN_cons (by unfold isN inN; simp; omega)]
    exact behN_fold l (stepN a c) (by unfold stepN; split <;> simp <;> omega) (by unfold stepN; split <;> simp <;> omega) (by unfold stepN; split <;> simp <;> omega) (by unfold stepN; split <;> simp <;> omega)
theorem idx_fold : ∀ (k : Nat) (l : List UInt8) (a : Nat × Nat) (j : Nat), k ≤ l.length → idx ((l.take k).foldl stepN a) a l j = some (j + k)
  | 0, l, a, j, _ => by simp [idx_here]
  | k + 1, [], a, j, h => by simp at h
  | k + 1, c :: l, a, j, h => by
    simp only [List.length_cons] at h
    rw [idx_next (ltN_ne (ltN_fold ((c :: l).take (k + 1)) a (by simp)))]
    rw [List.take_succ_cons, List.foldl_cons, idx_fold k l _ _ (by omega)]
    congr 1; omega
theorem beg_fold {l : List UInt8} (h : l.length ≤ 10000) : behN (1, 1) l = l.foldl stepN (1, 1) ∧ isN (behN (1, 1) l) = true := by
  have := behN_fold l (1, 1) (by simp) (by simp) (by simp; omega) (by simp; omega)
  refine ⟨this.1, ?_⟩
  rw [this.1]; unfold isN inN; simp; omega
theorem idx_beh {l : List UInt8} (h : l.length ≤ 10000) (k : Nat) (hk : k ≤ l.length) : idx (behN (1, 1) (l.take k)) (1, 1) l 0 = some k := by
  rw [(beg_fold (by simp; omega)).1, idx_fold k l _ _ hk]; simp
theorem bef_beh {l : List UInt8} (h : l.length ≤ 10000) (k : Nat) (hk : k < l.length) : befN (behN (1, 1) (l.take k)) (behN (1, 1) l) = true := by
  have h1 := beg_fold (l := l.take k) (by simp; omega)
  have h2 := beg_fold h
  rw [befN_in h1.2 h2.2]
  have h3 := ltN_fold (l.drop k) ((l.take k).foldl stepN (1, 1)) (by intro e; have := congrArg List.length e; simp at this; omega)
  rw [← List.foldl_append, List.take_append_drop, ← h1.1, ← h2.1] at h3
  unfold ltN at h3
  simpa using h3
theorem readFrom_app : ∀ (d pre r : List UInt8), (∀ c ∈ d, c.toNat ≠ 58) → readFrom pre (d ++ 58 :: r) = readP (pre ++ d) r
  | [], pre, r, _ => by rw [List.nil_append, readFrom_here _ (by decide), List.append_nil]
  | c :: d, pre, r, h => by
    rw [List.cons_append, readFrom_next _ (h c (by simp)), readFrom_app d _ r (fun x hx => h x (by simp [hx]))]
    simp
theorem readN_text {p : Nat × Nat} (h : isN p = true) : readN (textN p) = p := by
  have bd := isN_bd h
  rw [textN_in h]
  unfold readN
  rw [readFrom_app _ _ _ (dec_no_colon p.1), List.nil_append, readP_ok]
  · rw [inN_dec _ bd.1, inN_dec _ bd.2]
  · rw [inN_dec _ bd.1, inN_dec _ bd.2]; exact h
theorem dec_len : ∀ n : Nat, n ≤ 1073741824 → (Lib.decDigits n).length ≤ 10 := by
  intro n h
  have step : ∀ m k : Nat, (Lib.decDigits (m / 10)).length ≤ k → (Lib.decDigits m).length ≤ k + 1 := by
    intro m k hk
    by_cases h9 : 9 < m
    · rw [dec_big m h9]; simp; omega
    · rw [dec_small m h9]; simp
  have base : ∀ m : Nat, m ≤ 9 → (Lib.decDigits m).length ≤ 1 := by intro m hm; rw [dec_small m (by omega)]; simp
  refine step n 9 (step _ 8 (step _ 7 (step _ 6 (step _ 5 (step _ 4 (step _ 3 (step _ 2 (step _ 1 (base _ ?_)))))))))
  omega
theorem text_len {p : Nat × Nat} (h : isN p = true) : (textN p).length ≤ 21 := by
  have bd := isN_bd h
  have h1 := dec_len p.1 bd.1.2
  have h2 := dec_len p.2 bd.2.2
  rw [textN_in h]; simp; omega

set_option maxHeartbeats 6400000 in
theorem back_lt (s t : ByteArray) (n : Nat) (w : World) (hs : s.size ≤ 4096) (hT : t.size ≤ 4096) (hn : n < 65536) (ht : Tabs w) (k : Nat) (hk : n % (s.size + 1) = k) (hlt : k < s.size) :
    Calls Tryd.prog 8 #[.string s, .string t, .int .u16 n] w fun e w' => e = .returned (.bool true) ∧ Below w.heap.size w w' := by
  have hks : k ≤ s.size := by have := Nat.mod_lt n (show s.size + 1 > 0 by omega); omega
  have hk' : (n : Int) % ((s.size : Int) + 1) = (k : Int) := by rw [← hk]; simp
  have HT := Lib.hid ht
  clear ht hk
  have h1 := fun w' => heavy_any s w' (by omega)
  have h2 := fun w' => heavy_any t w' (by omega)
  rw [show decide (4096 < s.size) = false by simp; omega] at h1
  rw [show decide (4096 < t.size) = false by simp; omega] at h2
  have hls : s.data.toList.length ≤ 4096 := by simpa using hs
  have hlt' : t.data.toList.length ≤ 4096 := by simpa using hT
  have hkl : k ≤ s.data.toList.length := by simpa using hks
  have hst : (s ++ t).data.toList = s.data.toList ++ t.data.toList := by rw [ByteArray.data_append, Array.toList_append]
  have hsz : (s ++ t).size ≤ 8192 := by rw [ByteArray.size_append]; omega
  have f1 := beg_fold (l := s.data.toList.take k) (by simp; omega)
  have i1 := idx_beh (l := s.data.toList) (by omega) k hkl
  have i2 := idx_beh (l := s.data.toList ++ t.data.toList) (by simp at hls hlt' ⊢; omega) k (by simp at hkl ⊢; omega)
  rw [List.take_append_of_le_length hkl] at i2
  have f2 := (beg_fold (l := s.data.toList) (by omega)).2
  have f3 := (beg_fold (l := s.data.toList ++ t.data.toList) (by simp at hls hlt' ⊢; omega)).2
  have rt := readN_text f1.2
  have tl := text_len f1.2
  have on := ofN_nat f1.2
  have bd := isN_le f1.2
  have bd2 := isN_le f2
  have bd3 := isN_le f3
  have c0 := Begin_any
  have c1 := fun w' => Behind_any (1, 1) (s.extract 0 k) w' (by decide) (by decide) (by have := ext_to_size s k; omega)
  rw [ext_to] at c1
  have hsl := fun w => run_slice_string_h (P := Tryd.prog) w 9 s Tryd.underlying9 .i64 (k : Int) (by omega) (by omega)
  simp only [Int.toNat_natCast] at hsl
  have bb := bef_beh (l := s.data.toList) (by omega) k (by simpa using hlt)
  have c9 := fun w' => Behind_any (behN (1, 1) (s.data.toList.take k)) (s.extract k s.size) w' (by have := isN_bd f1.2; omega) (by have := isN_bd f1.2; omega) (by have := ext_from_size s k; omega)
  rw [ext_from, ← behN_app, List.take_append_drop] at c9
  have c10 := fun w' => Before_any (behN (1, 1) (s.data.toList.take k)) (behN (1, 1) s.data.toList) w' bd.1 bd.2 bd2.1 bd2.2
  rw [bb] at c10
  clear bb
  have c3 := fun w' => In_any s (behN (1, 1) (s.data.toList.take k)) w' bd.1 bd.2 (by omega)
  rw [i1] at c3
  have c4 := fun w' => In_any (s ++ t) (behN (1, 1) (s.data.toList.take k)) w' bd.1 bd.2 (by omega)
  rw [hst, i2] at c4
  have c5 := fun w' => Behind_any (1, 1) (s ++ t) w' (by decide) (by decide) (by omega)
  rw [hst] at c5
  have c6 := fun w' => Behind_any (1, 1) s w' (by decide) (by decide) (by omega)
  have c7 := fun w' => Behind_any (behN (1, 1) s.data.toList) t w' (by have := isN_bd f2; omega) (by have := isN_bd f2; omega) (by omega)
  rw [← behN_app] at c7
  have c11 := fun w' h => Text_any (behN (1, 1) (s.data.toList.take k)) w' bd.1 bd.2 h
  have c12 := fun w' h => Read_any ⟨(textN (behN (1, 1) (s.data.toList.take k))).toArray⟩ w' (by show (textN (behN (1, 1) (s.data.toList.take k))).toArray.size ≤ _; simp; omega) h
  have ets : (⟨(textN (behN (1, 1) (s.data.toList.take k))).toArray⟩ : ByteArray).data.toList = textN (behN (1, 1) (s.data.toList.take k)) := by simp
  rw [ets, rt] at c12
  unfold readTup at c12
  rw [f1.2] at c12
  have c13 := fun w' => Line_any (behN (1, 1) (s.data.toList.take k)) w' bd.1 bd.2
  have c14 := fun w' => Column_any (behN (1, 1) (s.data.toList.take k)) w' bd.1 bd.2
  rw [partN_in f1.2] at c13 c14
  have c15 := fun w' => Of_any ((behN (1, 1) (s.data.toList.take k)).1 : Nat) ((behN (1, 1) (s.data.toList.take k)).2 : Nat) w'
  rw [on] at c15
  have s1 := same_of (p := behN (1, 1) (s.data.toList.take k)) (q := behN (1, 1) (s.data.toList.take k)) (z := true) bd.1 bd.2 bd.1 bd.2 (by simp)
  have s2 := same_of (p := behN (1, 1) (s.data.toList ++ t.data.toList)) (q := behN (1, 1) (s.data.toList ++ t.data.toList)) (z := true) bd3.1 bd3.2 bd3.1 bd3.2 (by simp)
  clear f1 i1 i2 f2 f3 rt tl on bd bd2 bd3 hst hls hlt' hkl ets
  generalize textN (behN (1, 1) (s.data.toList.take k)) = tx at *
  generalize behN (1, 1) (s.data.toList.take k) = P at *
  generalize behN (1, 1) (s.data.toList ++ t.data.toList) = S at *
  generalize behN (1, 1) s.data.toList = Q at *
  obtain ⟨p1, p2⟩ := P
  obtain ⟨q1, q2⟩ := Q
  obtain ⟨u1, u2⟩ := S
  unfold Same at s1 s2
  unfold inTup at c3 c4
  unfold C at c0 c1 c3 c4 c5 c6 c7 c9 c10 c11 c12 c13 c14 c15
  simp only at s1 s2 c1 c3 c4 c5 c6 c7 c9 c10 c11 c12 c13 c14 c15
  have H1 := Lib.hid h1
  clear h1
  have H2 := Lib.hid h2
  clear h2
  have C0 := Lib.hid c0
  clear c0
  have C1 := Lib.hid c1
  clear c1
  have C3 := Lib.hid c3
  clear c3
  have C4 := Lib.hid c4
  clear c4
  have C5 := Lib.hid c5
  clear c5
  have C6 := Lib.hid c6
  clear c6
  have C7 := Lib.hid c7
  clear c7
  have C9 := Lib.hid c9
  clear c9
  have C10 := Lib.hid c10
  clear c10
  have C11 := Lib.hid c11
  clear c11
  have C12 := Lib.hid c12
  clear c12
  have C13 := Lib.hid c13
  clear c13
  have C14 := Lib.hid c14
  clear c14
  have C15 := Lib.hid c15
  clear c15
  have hltb : decide ((k : Int) < (s.size : Int)) = true := by simpa using hlt
  go_enter Tryd.func8, Tryd.ntmps8
  go_wp2_with fail
  ((with_reducible refine (H1.out _).mono ?_); rintro e w' ⟨rfl, rfl⟩)
  go_wp2_with fail
  ((with_reducible refine (H2.out _).mono ?_); rintro e w' ⟨rfl, rfl⟩)
  go_wp2
  go_quiet ((first | (go_at_call 21; exact Calls.quiet_of_same ((C0.out _).mono fun e w' h => ⟨h.1, h.2.symm⟩)) | (go_at_call 17; exact Calls.quiet_of_same ((C1.out _).mono fun e w' h => ⟨h.1, h.2.symm⟩))))
  simp only [hk']
  clear hk'
  have hb : Below w.heap.size w (w.drewN nq) := below_drewN (Below.refl _ _) _
  have hW : (w.drewN nq).heap.size = w.heap.size := rfl
  generalize w.drewN nq = x at *
  have HW := Lib.hid hW
  clear hW
  go_wp2_with fail
  ((with_reducible refine (C3.out _).mono ?_); rintro e w' ⟨rfl, rfl⟩)
  go_wp2_with fail
  ((with_reducible refine (C4.out _).mono ?_); rintro e w' ⟨rfl, rfl⟩)
  go_wp2_with fail
  ((with_reducible refine (C0.out _).mono ?_); rintro e w' ⟨rfl, rfl⟩)
  go_wp2_with fail
  ((with_reducible refine (C5.out _).mono ?_); rintro e w' ⟨rfl, rfl⟩)
  go_wp2_with fail
  ((with_reducible refine (C0.out _).mono ?_); rintro e w' ⟨rfl, rfl⟩)
  go_wp2_with fail
  ((with_reducible refine (C6.out _).mono ?_); rintro e w' ⟨rfl, rfl⟩)
  go_wp2_with fail
  ((with_reducible refine (C7.out _).mono ?_); rintro e w' ⟨rfl, rfl⟩)
  go_wp2_with fail
  ((with_reducible refine (C9.out _).mono ?_); rintro e w' ⟨rfl, rfl⟩)
  go_wp2_with fail
  ((with_reducible refine (C10.out _).mono ?_); rintro e w' ⟨rfl, rfl⟩)
  go_wp2_with fail
  ((with_reducible refine (C11.out _ (tabs_tab (tabs_below HT.out hb))).mono ?_); rintro e y1 ⟨rfl, g1⟩)
  have d1 : Below w.heap.size w y1 := hb.trans (g1.mono (by rw [HW.out]; omega))
  go_wp2_with fail
  ((with_reducible refine (C12.out _ (tabs_below HT.out d1)).mono ?_); rintro e y2 ⟨rfl, g2⟩)
  have d2 : Below w.heap.size w y2 := d1.trans (g2.mono d1.size)
  go_wp2_with fail
  ((with_reducible refine (C13.out _).mono ?_); rintro e w' ⟨rfl, rfl⟩)
  go_wp2_with fail
  ((with_reducible refine (C14.out _).mono ?_); rintro e w' ⟨rfl, rfl⟩)
  go_wp2_with fail
  ((with_reducible refine (C15.out _).mono ?_); rintro e w' ⟨rfl, rfl⟩)
  go_wp2_with fail
  ((with_reducible refine (works_any _ (tabs_below HT.out d2)).mono ?_); rintro e y3 ⟨rfl, g3⟩)
  have d3 : Below w.heap.size w y3 := d2.trans (g3.mono d2.size)
  go_wp2
  go_ret
  exact ⟨rfl, d3⟩

set_option maxHeartbeats 6400000 in
theorem back_end (s t : ByteArray) (n : Nat) (w : World) (hs : s.size ≤ 4096) (hT : t.size ≤ 4096) (hn : n < 65536) (ht : Tabs w) (k : Nat) (hk : n % (s.size + 1) = k) (hlt : k = s.size) :
    Calls Tryd.prog 8 #[.string s, .string t, .int .u16 n] w fun e w' => e = .returned (.bool true) ∧ Below w.heap.size w w' := by
  have hks : k ≤ s.size := by have := Nat.mod_lt n (show s.size + 1 > 0 by omega); omega
  have hk' : (n : Int) % ((s.size : Int) + 1) = (k : Int) := by rw [← hk]; simp
  have HT := Lib.hid ht
  clear ht hk
  have h1 := fun w' => heavy_any s w' (by omega)
  have h2 := fun w' => heavy_any t w' (by omega)
  rw [show decide (4096 < s.size) = false by simp; omega] at h1
  rw [show decide (4096 < t.size) = false by simp; omega] at h2
  have hls : s.data.toList.length ≤ 4096 := by simpa using hs
  have hlt' : t.data.toList.length ≤ 4096 := by simpa using hT
  have hkl : k ≤ s.data.toList.length := by simpa using hks
  have hst : (s ++ t).data.toList = s.data.toList ++ t.data.toList := by rw [ByteArray.data_append, Array.toList_append]
  have hsz : (s ++ t).size ≤ 8192 := by rw [ByteArray.size_append]; omega
  have f1 := beg_fold (l := s.data.toList.take k) (by simp; omega)
  have i1 := idx_beh (l := s.data.toList) (by omega) k hkl
  have i2 := idx_beh (l := s.data.toList ++ t.data.toList) (by simp at hls hlt' ⊢; omega) k (by simp at hkl ⊢; omega)
  rw [List.take_append_of_le_length hkl] at i2
  have f2 := (beg_fold (l := s.data.toList) (by omega)).2
  have f3 := (beg_fold (l := s.data.toList ++ t.data.toList) (by simp at hls hlt' ⊢; omega)).2
  have rt := readN_text f1.2
  have tl := text_len f1.2
  have on := ofN_nat f1.2
  have bd := isN_le f1.2
  have bd2 := isN_le f2
  have bd3 := isN_le f3
  have c0 := Begin_any
  have c1 := fun w' => Behind_any (1, 1) (s.extract 0 k) w' (by decide) (by decide) (by have := ext_to_size s k; omega)
  rw [ext_to] at c1
  have hsl := fun w => run_slice_string_h (P := Tryd.prog) w 9 s Tryd.underlying9 .i64 (k : Int) (by omega) (by omega)
  simp only [Int.toNat_natCast] at hsl
  have c3 := fun w' => In_any s (behN (1, 1) (s.data.toList.take k)) w' bd.1 bd.2 (by omega)
  rw [i1] at c3
  have c4 := fun w' => In_any (s ++ t) (behN (1, 1) (s.data.toList.take k)) w' bd.1 bd.2 (by omega)
  rw [hst, i2] at c4
  have c5 := fun w' => Behind_any (1, 1) (s ++ t) w' (by decide) (by decide) (by omega)
  rw [hst] at c5
  have c6 := fun w' => Behind_any (1, 1) s w' (by decide) (by decide) (by omega)
  have c7 := fun w' => Behind_any (behN (1, 1) s.data.toList) t w' (by have := isN_bd f2; omega) (by have := isN_bd f2; omega) (by omega)
  rw [← behN_app] at c7
  have c11 := fun w' h => Text_any (behN (1, 1) (s.data.toList.take k)) w' bd.1 bd.2 h
  have c12 := fun w' h => Read_any ⟨(textN (behN (1, 1) (s.data.toList.take k))).toArray⟩ w' (by show (textN (behN (1, 1) (s.data.toList.take k))).toArray.size ≤ _; simp; omega) h
  have ets : (⟨(textN (behN (1, 1) (s.data.toList.take k))).toArray⟩ : ByteArray).data.toList = textN (behN (1, 1) (s.data.toList.take k)) := by simp
  rw [ets, rt] at c12
  unfold readTup at c12
  rw [f1.2] at c12
  have c13 := fun w' => Line_any (behN (1, 1) (s.data.toList.take k)) w' bd.1 bd.2
  have c14 := fun w' => Column_any (behN (1, 1) (s.data.toList.take k)) w' bd.1 bd.2
  rw [partN_in f1.2] at c13 c14
  have c15 := fun w' => Of_any ((behN (1, 1) (s.data.toList.take k)).1 : Nat) ((behN (1, 1) (s.data.toList.take k)).2 : Nat) w'
  rw [on] at c15
  have s1 := same_of (p := behN (1, 1) (s.data.toList.take k)) (q := behN (1, 1) (s.data.toList.take k)) (z := true) bd.1 bd.2 bd.1 bd.2 (by simp)
  have s2 := same_of (p := behN (1, 1) (s.data.toList ++ t.data.toList)) (q := behN (1, 1) (s.data.toList ++ t.data.toList)) (z := true) bd3.1 bd3.2 bd3.1 bd3.2 (by simp)
  clear f1 i1 i2 f2 f3 rt tl on bd bd2 bd3 hst hls hlt' hkl ets
  generalize textN (behN (1, 1) (s.data.toList.take k)) = tx at *
  generalize behN (1, 1) (s.data.toList.take k) = P at *
  generalize behN (1, 1) (s.data.toList ++ t.data.toList) = S at *
  generalize behN (1, 1) s.data.toList = Q at *
  obtain ⟨p1, p2⟩ := P
  obtain ⟨q1, q2⟩ := Q
  obtain ⟨u1, u2⟩ := S
  unfold Same at s1 s2
  unfold inTup at c3 c4
  unfold C at c0 c1 c3 c4 c5 c6 c7 c11 c12 c13 c14 c15
  simp only at s1 s2 c1 c3 c4 c5 c6 c7 c11 c12 c13 c14 c15
  have H1 := Lib.hid h1
  clear h1
  have H2 := Lib.hid h2
  clear h2
  have C0 := Lib.hid c0
  clear c0
  have C1 := Lib.hid c1
  clear c1
  have C3 := Lib.hid c3
  clear c3
  have C4 := Lib.hid c4
  clear c4
  have C5 := Lib.hid c5
  clear c5
  have C6 := Lib.hid c6
  clear c6
  have C7 := Lib.hid c7
  clear c7
  have C11 := Lib.hid c11
  clear c11
  have C12 := Lib.hid c12
  clear c12
  have C13 := Lib.hid c13
  clear c13
  have C14 := Lib.hid c14
  clear c14
  have C15 := Lib.hid c15
  clear c15
  have hltb : decide (k < s.size) = false := by simp; omega
  clear hlt
  go_enter Tryd.func8, Tryd.ntmps8
  go_wp2_with fail
  ((with_reducible refine (H1.out _).mono ?_); rintro e w' ⟨rfl, rfl⟩)
  go_wp2_with fail
  ((with_reducible refine (H2.out _).mono ?_); rintro e w' ⟨rfl, rfl⟩)
  go_wp2
  go_quiet ((first | (go_at_call 21; exact Calls.quiet_of_same ((C0.out _).mono fun e w' h => ⟨h.1, h.2.symm⟩)) | (go_at_call 17; exact Calls.quiet_of_same ((C1.out _).mono fun e w' h => ⟨h.1, h.2.symm⟩))))
  simp only [hk']
  clear hk'
  have hb : Below w.heap.size w (w.drewN nq) := below_drewN (Below.refl _ _) _
  have hW : (w.drewN nq).heap.size = w.heap.size := rfl
  generalize w.drewN nq = x at *
  have HW := Lib.hid hW
  clear hW
  go_wp2_with fail
  ((with_reducible refine (C3.out _).mono ?_); rintro e w' ⟨rfl, rfl⟩)
  go_wp2_with fail
  ((with_reducible refine (C4.out _).mono ?_); rintro e w' ⟨rfl, rfl⟩)
  go_wp2_with fail
  ((with_reducible refine (C0.out _).mono ?_); rintro e w' ⟨rfl, rfl⟩)
  go_wp2_with fail
  ((with_reducible refine (C5.out _).mono ?_); rintro e w' ⟨rfl, rfl⟩)
  go_wp2_with fail
  ((with_reducible refine (C0.out _).mono ?_); rintro e w' ⟨rfl, rfl⟩)
  go_wp2_with fail
  ((with_reducible refine (C6.out _).mono ?_); rintro e w' ⟨rfl, rfl⟩)
  go_wp2_with fail
  ((with_reducible refine (C7.out _).mono ?_); rintro e w' ⟨rfl, rfl⟩)
  go_wp2_with fail
  ((with_reducible refine (C11.out _ (tabs_tab (tabs_below HT.out hb))).mono ?_); rintro e y1 ⟨rfl, g1⟩)
  have d1 : Below w.heap.size w y1 := hb.trans (g1.mono (by rw [HW.out]; omega))
  go_wp2_with fail
  ((with_reducible refine (C12.out _ (tabs_below HT.out d1)).mono ?_); rintro e y2 ⟨rfl, g2⟩)
  have d2 : Below w.heap.size w y2 := d1.trans (g2.mono d1.size)
  go_wp2_with fail
  ((with_reducible refine (C13.out _).mono ?_); rintro e w' ⟨rfl, rfl⟩)
  go_wp2_with fail
  ((with_reducible refine (C14.out _).mono ?_); rintro e w' ⟨rfl, rfl⟩)
  go_wp2_with fail
  ((with_reducible refine (C15.out _).mono ?_); rintro e w' ⟨rfl, rfl⟩)
  go_wp2_with fail
  ((with_reducible refine (works_any _ (tabs_below HT.out d2)).mono ?_); rintro e y3 ⟨rfl, g3⟩)
  have d3 : Below w.heap.size w y3 := d2.trans (g3.mono d2.size)
  go_wp2
  go_ret
  exact ⟨rfl, d3⟩

set_option maxHeartbeats 1600000 in
theorem back_heavy1 (s t : ByteArray) (n : Nat) (w : World) (hs : s.size ≤ 9223372036854775807) (hv : 4096 < s.size) (ht : Tabs w) :
    Calls Tryd.prog 8 #[.string s, .string t, .int .u16 n] w fun e w' => e = .returned (.bool true) ∧ Below w.heap.size w w' := by
  have HT := Lib.hid ht
  clear ht
  have h1 := fun w' => heavy_any s w' (by omega)
  rw [show decide (4096 < s.size) = true by simp; omega] at h1
  have H1 := Lib.hid h1
  clear h1 hv
  go_enter Tryd.func8, Tryd.ntmps8
  go_wp2_with fail
  ((with_reducible refine (H1.out _).mono ?_); rintro e w' ⟨rfl, rfl⟩)
  go_wp2_with fail
  ((with_reducible refine (works_any _ HT.out).mono ?_); rintro e x1 ⟨rfl, g1⟩)
  go_wp2
  go_ret
  exact ⟨rfl, g1⟩
set_option maxHeartbeats 1600000 in
theorem back_heavy2 (s t : ByteArray) (n : Nat) (w : World) (hs : s.size ≤ 4096) (hT : t.size ≤ 9223372036854775807) (hv : 4096 < t.size) (ht : Tabs w) :
    Calls Tryd.prog 8 #[.string s, .string t, .int .u16 n] w fun e w' => e = .returned (.bool true) ∧ Below w.heap.size w w' := by
  have HT := Lib.hid ht
  clear ht
  have h1 := fun w' => heavy_any s w' (by omega)
  have h2 := fun w' => heavy_any t w' (by omega)
  rw [show decide (4096 < s.size) = false by simp; omega] at h1
  rw [show decide (4096 < t.size) = true by simp; omega] at h2
  have H1 := Lib.hid h1
  have H2 := Lib.hid h2
  clear h1 h2 hv
  go_enter Tryd.func8, Tryd.ntmps8
  go_wp2_with fail
  ((with_reducible refine (H1.out _).mono ?_); rintro e w' ⟨rfl, rfl⟩)
  go_wp2_with fail
  ((with_reducible refine (H2.out _).mono ?_); rintro e w' ⟨rfl, rfl⟩)
  go_wp2_with fail
  ((with_reducible refine (works_any _ HT.out).mono ?_); rintro e x1 ⟨rfl, g1⟩)
  go_wp2
  go_ret
  exact ⟨rfl, g1⟩
theorem back_any (s t : ByteArray) (n : Nat) (w : World) (hs : s.size ≤ 9223372036854775807) (hT : t.size ≤ 9223372036854775807) (hn : n < 65536) (ht : Tabs w) :
    Calls Tryd.prog 8 #[.string s, .string t, .int .u16 n] w fun e w' => e = .returned (.bool true) ∧ Below w.heap.size w w' := by
  by_cases h1 : 4096 < s.size
  · exact back_heavy1 s t n w hs h1 ht
  · by_cases h2 : 4096 < t.size
    · exact back_heavy2 s t n w (by omega) hT h2 ht
    · have hm := Nat.mod_lt n (show s.size + 1 > 0 by omega)
      by_cases h3 : n % (s.size + 1) < s.size
      · exact back_lt s t n w (by omega) (by omega) hn ht _ rfl h3
      · exact back_end s t n w (by omega) (by omega) hn ht _ rfl (by omega)

end Go.Proofs.YtpomnihgimgpdaaDoor.Pl
