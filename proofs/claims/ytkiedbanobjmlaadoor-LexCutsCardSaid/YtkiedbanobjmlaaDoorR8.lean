/- The walk of the reference's One at a quote, at a symbol; all together. -/
import Derived.Test.YtkiedbanobjmlaaDoorR7
set_option linter.unusedSimpArgs false
set_option linter.unusedVariables false
namespace Go.Proofs.YtkiedbanobjmlaaDoor.Lx
open Go.RowKit
open Pl Fl
attribute [local go_sem] run_store_complexL

/-- What a string goes on with. -/
def isQ (c : UInt8) (x : UInt8) : Bool := x != c && x != 10
theorem one_quote (s : ByteArray) (h0 : 0 < s.size) (hl : isL s[0] = false) (hd : isD s[0] = false) (hq : s[0] = 34 ∨ s[0] = 39) (k : Nat) (hk1 : 1 ≤ k) (hk : runN (isQ s[0]) (s.data.toList.drop 1) = k - 1) :
    ((s.data.toList[k]? = none ∨ s.data.toList[k]? = some 10) → oneN s.data.toList = .error 42) ∧
    (¬ (s.data.toList[k]? = none ∨ s.data.toList[k]? = some 10) → oneN s.data.toList = .ok (⟨4, s.extract 1 k, 0⟩, k + 1)) := by
  have hone : oneN s.data.toList = if s.data.toList[k]? = none ∨ s.data.toList[k]? = some 10 then .error 42 else .ok (⟨4, bt ((s.data.toList.take k).drop 1), 0⟩, k + 1) := by
    unfold oneN
    rw [head_at s h0]
    simp only [Option.getD_some, hl, hd, hq, if_true, Bool.false_eq_true, if_false]
    have e : runN (fun x => x != s[0] && x != 10) s.data.toList.tail = k - 1 := by rw [← hk, List.drop_one]; rfl
    rw [e, show 1 + (k - 1) = k from by omega]
  constructor
  · intro h; rw [hone, if_pos h]
  · intro h; rw [hone, if_neg h]
    have : s.extract 1 k = bt ((s.data.toList.take k).drop 1) := by
      apply bytes_ext
      rw [ByteArray.data_extract, Array.toList_extract, List.extract_eq_take_drop]
      simp [bt, List.drop_take]
    rw [this]

theorem ne_of_eq {a b : Int} {c : Bool} (h : (a == b) = c) : (a != b) = !c := by simp [bne, h]
set_option maxRecDepth 100000 in
set_option maxHeartbeats 6400000 in
theorem One_quote (s : ByteArray) (h0 : 0 < s.size) (hs : s.size ≤ 9223372036854775800) (hl0 : isL s[0] = false) (hd0 : isD s[0] = false) (hq : s[0] = 34 ∨ s[0] = 39) (w : World) :
    Calls Tryd.prog 29 #[.string s] w fun e w' => oneEnd (oneN s.data.toList) e ∧ Below w.heap.size w w' := by
  have i0 : (0 : Int) < (s.size : Int) := by omega
  have RL := Lib.hid (fun c w => rletter_any c w)
  have RD := Lib.hid (fun c w => rdigit_any c w)
  have HQA := Lib.hid (one_quote s h0 hl0 hd0 hq)
  have q34 : s[0] = 34 → ((s[0].toNat : Int) == 34) = true := fun h => by rw [h]; rfl
  have q34' : s[0] = 39 → ((s[0].toNat : Int) == 34) = false := fun h => by rw [h]; rfl
  have q39 : s[0] = 39 → ((s[0].toNat : Int) == 39) = true := fun h => by rw [h]; rfl
  go_enter Tryd.func29, Tryd.ntmps29
  go_wp2_with fail
  ((with_reducible refine (RL.out _ _).mono ?_); rintro e w1 ⟨rfl, rfl⟩)
  go_wp2_with fail
  ((with_reducible refine (RD.out _ _).mono ?_); rintro e w1 ⟨rfl, rfl⟩)
  rcases hq with hq | hq
  case' inl =>
    have t1 := q34 hq
    clear q34 q34' q39 hq
    go_wp2_with fail
  case' inr =>
    have t1 := q34' hq
    have t2 := q39 hq
    clear q34 q34' q39 hq
    go_wp2_with fail
  all_goals
    go_loop [5] (fun i => ∃ k : Nat, 1 ≤ k ∧ k ≤ s.size ∧ i = .int .i64 k ∧ Hid (runN (isQ s[0]) (s.data.toList.drop 1) = (k - 1) + runN (isQ s[0]) (s.data.toList.drop k))) (fun i => s.size - (intOf i).toNat)
    case atStart => exact ⟨1, Nat.le_refl _, by omega, rfl, Lib.hid (by simp)⟩
    case round =>
      obtain ⟨k, hk1, hk, rfl, HB⟩ := hrel
      have x0 : (0 : Int) ≤ (k : Int) := by omega
      have x00 : (1 : Int) ≤ (k : Int) := by omega
      have x2 : (k : Int) ≤ (s.size : Int) := by omega
      rcases Nat.lt_or_ge k s.size with hlt | hge
      case' inl =>
        have HD := Lib.hid (drop_cons s k hlt)
        have HA : Hid (s.data.toList[k]? = some s[k]) := Lib.hid (by have := congrArg List.head? HD.out; rw [List.head?_drop] at this; rw [this]; rfl)
        have x1 : (k : Int) < (s.size : Int) := by omega
        have z1 : ((k : Int) == (s.size : Int)) = false := by simp only [beq_eq_false_iff_ne, ne_eq]; omega
        by_cases hc : s[k] = s[0]
        case' pos =>
          have HK := Lib.hid (show runN (isQ s[0]) (s.data.toList.drop 1) = k - 1 by rw [HB.out, HD.out, runN_no (by unfold isQ; rw [hc]; simp)]; rfl)
          have y1 : ((s[k].toNat : Int) == (s[0].toNat : Int)) = true := by rw [hc]; simp
          have y2 : ((s[k].toNat : Int) == 10) = false := by
            rw [hc]
            generalize s[0] = c at *
            revert t1
            simp only [beq_eq_false_iff_ne, ne_eq]
            intro t1 e
            rw [e] at t1
            first
              | cases t1
              | (rw [e] at t2; cases t2)
          have HE := Lib.hid ((HQA.out k hk1 HK.out).2 (by rw [HA.out]; simp; intro e; rw [e] at y2; cases y2))
          have y1n : ((s[k].toNat : Int) != (s[0].toNat : Int)) = false := ne_of_eq y1
          have y2n : ((s[k].toNat : Int) != 10) = true := ne_of_eq y2
          clear HB HD HA HQA HK hc
          go_wp2
        case' neg =>
          have y1 : ((s[k].toNat : Int) == (s[0].toNat : Int)) = false := by
            simp only [beq_eq_false_iff_ne, ne_eq]; exact fun e => hc (UInt8.toNat_inj.1 (by omega))
          by_cases h10 : s[k] = 10
          case' pos =>
            have HK := Lib.hid (show runN (isQ s[0]) (s.data.toList.drop 1) = k - 1 by rw [HB.out, HD.out, runN_no (by unfold isQ; rw [h10]; simp)]; rfl)
            have y2 : ((s[k].toNat : Int) == 10) = true := by rw [h10]; rfl
            have HE := Lib.hid ((HQA.out k hk1 HK.out).1 (by rw [HA.out, h10]; exact .inr rfl))
            have y1n : ((s[k].toNat : Int) != (s[0].toNat : Int)) = true := ne_of_eq y1
            have y2n : ((s[k].toNat : Int) != 10) = false := ne_of_eq y2
            clear HB HD HA HQA HK hc h10 y1
            go_wp2
          case' neg =>
            have y2 : ((s[k].toNat : Int) == 10) = false := by
              simp only [beq_eq_false_iff_ne, ne_eq]; exact fun e => h10 (UInt8.toNat_inj.1 (by rw [show (10 : UInt8).toNat = 10 from rfl]; omega))
            have HN := Lib.hid (show runN (isQ s[0]) (s.data.toList.drop 1) = (k + 1 - 1) + runN (isQ s[0]) (s.data.toList.drop (k + 1)) by
              rw [HB.out, HD.out, runN_yes (by unfold isQ; simp [hc, h10])]; omega)
            have y1n : ((s[k].toNat : Int) != (s[0].toNat : Int)) = true := ne_of_eq y1
            have y2n : ((s[k].toNat : Int) != 10) = true := ne_of_eq y2
            clear HB HD HA HQA hc h10 z1 x00
            go_wp2
            go_round
            case rel => exact ⟨k + 1, by omega, by omega, by go_num, HN⟩
            case measure => simp [intOf]; omega
      case' inr =>
        have hke : k = s.size := by omega
        have z1 : ((k : Int) == (s.size : Int)) = true := by simp only [beq_iff_eq]; omega
        have HK := Lib.hid (show runN (isQ s[0]) (s.data.toList.drop 1) = k - 1 by rw [HB.out, List.drop_of_length_le (by simp; omega)]; rfl)
        have HE := Lib.hid ((HQA.out k hk1 HK.out).1 (by rw [List.getElem?_eq_none (by simp; omega)]; exact .inl rfl))
        clear HB HQA HK hke
        go_wp2
      all_goals
        (try simp only [Exit.inBlock, Exit.then])
        refine bodyPost_ret (tok_ret3 rfl _ _ w.heap.size _ _ _ _ _ rfl (Blk.new _ _ _)) rfl ?_
        exact ⟨by rw [HE.out]; first | (simp [oneEnd, noTk, Tk.val, Tk.vals, C, fl_0]; done) | (simp [oneEnd, Tk.val, Tk.vals, C, fl_0]; done), (Below.refl _ _).alloc (Nat.le_refl _) _⟩
theorem one_symbol (s : ByteArray) (h0 : 0 < s.size) (hl : isL s[0] = false) (hd : isD s[0] = false) (hq : ¬ (s[0] = 34 ∨ s[0] = 39)) :
    (symN s.data.toList = 0 → oneN s.data.toList = .error 40) ∧ (∀ n, symN s.data.toList = n → n ≠ 0 → oneN s.data.toList = .ok (plainT (s.extract 0 n), n)) := by
  have hone : oneN s.data.toList = if symN s.data.toList = 0 then .error 40 else .ok (plainT (bt (s.data.toList.take (symN s.data.toList))), symN s.data.toList) := by
    unfold oneN
    rw [head_at s h0]
    simp only [Option.getD_some, hl, hd, hq, Bool.false_eq_true, if_false]
  constructor
  · intro h; rw [hone, if_pos h]
  · rintro n rfl hn; rw [hone, if_neg hn, ext_take]
theorem symN_le (s : List UInt8) (h : s ≠ []) : symN s ≤ s.length := by
  unfold symN
  split
  · rename_i h2
    obtain ⟨x, hx, e⟩ := List.any_eq_true.1 h2
    have := twos_size x hx
    have e := eq_of_beq e
    rw [e] at this
    simp at this
    omega
  · split
    · rcases s with _ | ⟨a, r⟩
      · exact absurd rfl h
      · simp
    · omega

set_option maxRecDepth 100000 in
set_option maxHeartbeats 6400000 in
theorem One_symbol (s : ByteArray) (h0 : 0 < s.size) (hs : s.size ≤ 9223372036854775800) (hl0 : isL s[0] = false) (hd0 : isD s[0] = false) (hq : ¬ (s[0] = 34 ∨ s[0] = 39)) (w : World) :
    Calls Tryd.prog 29 #[.string s] w fun e w' => oneEnd (oneN s.data.toList) e ∧ Below w.heap.size w w' := by
  have i0 : (0 : Int) < (s.size : Int) := by omega
  have RL := Lib.hid (fun c w => rletter_any c w)
  have RD := Lib.hid (fun c w => rdigit_any c w)
  have SY := Lib.hid (fun w => symbol_any s h0 hs w)
  obtain ⟨hs0, hs1⟩ := one_symbol s h0 hl0 hd0 hq
  have HS0 := Lib.hid hs0
  have HS1 := Lib.hid hs1
  have hsl := symN_le s.data.toList (by intro e; have h1 := congrArg List.length e; rw [Array.length_toList, ByteArray.size_data] at h1; simp only [List.length_nil] at h1; omega)
  have hsl' : symN s.data.toList ≤ s.size := by simpa using hsl
  clear hs0 hs1 hsl
  have q34 : ((s[0].toNat : Int) == 34) = false := by
    simp only [beq_eq_false_iff_ne, ne_eq]; exact fun e => hq (.inl (UInt8.toNat_inj.1 (by rw [show (34 : UInt8).toNat = 34 from rfl]; omega)))
  have q39 : ((s[0].toNat : Int) == 39) = false := by
    simp only [beq_eq_false_iff_ne, ne_eq]; exact fun e => hq (.inr (UInt8.toNat_inj.1 (by rw [show (39 : UInt8).toNat = 39 from rfl]; omega)))
  clear hq
  go_enter Tryd.func29, Tryd.ntmps29
  go_wp2_with fail
  ((with_reducible refine (RL.out _ _).mono ?_); rintro e w1 ⟨rfl, rfl⟩)
  go_wp2_with fail
  ((with_reducible refine (RD.out _ _).mono ?_); rintro e w1 ⟨rfl, rfl⟩)
  go_wp2_with fail
  ((with_reducible refine (SY.out _).mono ?_); rintro e w1 ⟨rfl, hb⟩)
  have hz := hb.size
  have hB := (Blk.new w 35 #[.int .u8 0, .complex .f64 0 0, .complex .f64 0 0, .string ⟨#[]⟩, .int .i64 0])
  have hlt1 : w.heap.size < (w.alloc (.cells #[.int .u8 0, .complex .f64 0 0, .complex .f64 0 0, .string ⟨#[]⟩, .int .i64 0] 35)).heap.size := by rw [World.size_alloc]; exact Nat.lt_succ_self _
  have hB := hB.below hb hlt1
  have hBl : Hid (Below w.heap.size w w1) := Lib.hid (((Below.refl w.heap.size w).alloc (Nat.le_refl _) _).trans (hb.mono (Nat.le_of_lt hlt1)))
  have hlt0 : w.heap.size < w1.heap.size := Nat.lt_of_lt_of_le hlt1 hz
  have HBK := Lib.hid hB
  clear hb hz hlt1
  generalize symN s.data.toList = n at *
  by_cases hn : n = 0
  · subst hn
    obtain ⟨m0, m1, m2, m3, m4, f0, f1, f2, f3, f4⟩ := hB.tok
    have HE := Lib.hid (HS0.out rfl)
    clear HS0 HS1 hB
    go_wp2
    (try simp only [Exit.inBlock, Exit.then])
    refine bodyPost_ret (tok_ret3 rfl _ _ w.heap.size _ _ _ _ _ rfl (tok_stored HBK.out _ _ _ _ _)) rfl ?_
    exact ⟨by rw [HE.out]; simp [oneEnd, noTk, Tk.val, Tk.vals, C, fl_0], below_stored hBl.out (Nat.le_refl _) _ _ _ _ _⟩
  · have HE := Lib.hid (HS1.out n rfl hn)
    have n0 : ((n : Int) == 0) = false := by simp only [beq_eq_false_iff_ne, ne_eq]; omega
    have x0 : (0 : Int) ≤ (n : Int) := by omega
    have x2 : (n : Int) ≤ (s.size : Int) := by omega
    clear HS0 HS1 hn hB
    go_wp2_with fail
    ((with_reducible refine (plain_any _ _).mono ?_); rintro e w2 ⟨rfl, hb⟩)
    have hB := HBK.out.below hb hlt0
    have hBl2 : Hid (Below w.heap.size w w2) := Lib.hid (hBl.out.trans (hb.mono (Nat.le_of_lt hlt0)))
    obtain ⟨m0, m1, m2, m3, m4, f0, f1, f2, f3, f4⟩ := hB.tok
    have HB2 := Lib.hid hB
    generalize plainT _ = tk at *
    obtain ⟨tk, tt, tn⟩ := tk
    clear hB hb HBK hBl
    simp only [Tk.val, Tk.vals, C, fl_0]
    go_wp2
    (try simp only [Exit.inBlock, Exit.then])
    refine bodyPost_ret (tok_ret3 rfl _ _ w.heap.size _ _ _ _ _ rfl (tok_stored HB2.out _ _ _ _ _)) rfl ?_
    exact ⟨by rw [HE.out]; simp [oneEnd, Tk.val, Tk.vals, C, fl_0], below_stored hBl2.out (Nat.le_refl _) _ _ _ _ _⟩

/-- THE REFERENCE'S ONE. -/
theorem One_any (s : ByteArray) (h0 : 0 < s.size) (hs : s.size ≤ 9223372036854775800) (w : World) :
    Calls Tryd.prog 29 #[.string s] w fun e w' => oneEnd (oneN s.data.toList) e ∧ Below w.heap.size w w' := by
  cases hl : isL s[0]
  · cases hd : isD s[0]
    · by_cases hq : s[0] = 34 ∨ s[0] = 39
      · exact One_quote s h0 hs hl hd hq w
      · exact One_symbol s h0 hs hl hd hq w
    · exact One_digit s h0 hs hd w
  · exact One_letter s h0 hs hl w
end Go.Proofs.YtkiedbanobjmlaaDoor.Lx
