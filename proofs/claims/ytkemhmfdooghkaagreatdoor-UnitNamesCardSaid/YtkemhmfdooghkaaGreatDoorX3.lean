import Derived.Test.YtkemhmfdooghkaaGreatDoorX2
import Derived.Outline
set_option linter.unusedSimpArgs false
set_option linter.unusedVariables false
set_option maxRecDepth 100000
set_option maxHeartbeats 6400000
namespace Go.Proofs.YtkemhmfdooghkaaGreatDoor
namespace Lx
open Go.RowKit
open Pl Fl
attribute [local go_sem] run_store_complexL
def runN (p : UInt8 → Bool) (l : List UInt8) : Nat := (l.takeWhile p).length
theorem runN_nil (p : UInt8 → Bool) : runN p [] = 0 := rfl
theorem runN_yes {p : UInt8 → Bool} {c : UInt8} (h : p c = true) (r : List UInt8) : runN p (c :: r) = runN p r + 1 := by simp [runN, List.takeWhile, h]
theorem runN_no {p : UInt8 → Bool} {c : UInt8} (h : p c = false) (r : List UInt8) : runN p (c :: r) = 0 := by simp [runN, List.takeWhile, h]
theorem runN_le (p : UInt8 → Bool) (l : List UInt8) : runN p l ≤ l.length := (List.takeWhile_sublist p).length_le
def isP (c : UInt8) : Bool := isL c || isD c
def isX (c : UInt8) : Bool := isD c || decide (65 ≤ c.toNat) && decide (c.toNat ≤ 70)
def bt (l : List UInt8) : ByteArray := ⟨l.toArray⟩
def oneN (s : List UInt8) : Except Nat (Tk × Nat) :=
 let c := s.head?.getD 0
 if isL c then
  let n := runN isP s
  if 32 < n then .error 5 else .ok (⟨if isW (bt (s.take n)) then 6 else 1, bt (s.take n), 0⟩, n)
 else if isD c then
  let m := runN isX s
  let n := if s[m]? = some 72 then m + 1 else m
  match numN (s.take n) with
  | none => .error 41
  | some t => .ok (t, n)
 else if c = 34 ∨ c = 39 then
  let n := 1 + runN (fun x => x != c && x != 10) s.tail
  if s[n]? = none ∨ s[n]? = some 10 then .error 42 else .ok (⟨4, bt ((s.take n).drop 1), 0⟩, n + 1)
 else
  let n := symN s
  if n = 0 then .error 40 else .ok (plainT (bt (s.take n)), n)
def oneEnd (r : Except Nat (Tk × Nat)) (e : Ending) : Prop := match r with
 | .ok (t, n) => e = .returned (.tuple #[t.val (0, 0) (0, 0), .int .i64 n, .int .i64 0])
 | .error k => e = .returned (.tuple #[noTk.val (0, 0) (0, 0), .int .i64 0, .int .i64 k])
theorem ext_take (s : ByteArray) (n : Nat) : s.extract 0 n = bt (s.data.toList.take n) := by
 apply bytes_ext
 rw [ByteArray.data_extract, Array.toList_extract, List.extract_eq_take_drop]
 simp [bt]
theorem tok_stored {w : World} {b : Nat} {T : TypeId} {a0 a1 a2 a3 a4 : Value} (h : Blk w b T #[a0, a1, a2, a3, a4]) (x0 x1 x2 x3 x4 : Value) :
 Blk (((((w.setCell ⟨b, 0, none⟩ x0).setCell ⟨b, 1, none⟩ x1).setCell ⟨b, 2, none⟩ x2).setCell ⟨b, 3, none⟩ x3).setCell ⟨b, 4, none⟩ x4) b T #[x0, x1, x2, x3, x4] := by
 have := ((((h.set_ 0 x0).set_ 1 x1).set_ 2 x2).set_ 3 x3).set_ 4 x4
 simpa using this
theorem below_stored {B : Nat} {W w : World} {b : Nat} (h : Below B W w) (hB : B ≤ b) (x0 x1 x2 x3 x4 : Value) :
 Below B W (((((w.setCell ⟨b, 0, none⟩ x0).setCell ⟨b, 1, none⟩ x1).setCell ⟨b, 2, none⟩ x2).setCell ⟨b, 3, none⟩ x3).setCell ⟨b, 4, none⟩ x4) :=
 ((((h.setCell hB _).setCell hB _).setCell hB _).setCell hB _).setCell hB _
structure TokAt (w : World) (b : Nat) (v0 v1 v2 v3 v4 : Value) : Prop where
 c0 : w.cell? ⟨b, 0, none⟩ = some v0
 c1 : w.cell? ⟨b, 1, none⟩ = some v1
 c2 : w.cell? ⟨b, 2, none⟩ = some v2
 c3 : w.cell? ⟨b, 3, none⟩ = some v3
 c4 : w.cell? ⟨b, 4, none⟩ = some v4
 f0 : w.frozen? ⟨b, 0, none⟩ = false
 f1 : w.frozen? ⟨b, 1, none⟩ = false
 f2 : w.frozen? ⟨b, 2, none⟩ = false
 f3 : w.frozen? ⟨b, 3, none⟩ = false
 f4 : w.frozen? ⟨b, 4, none⟩ = false
theorem Blk.tok {w : World} {b : Nat} {T : TypeId} {v0 v1 v2 v3 v4 : Value} (h : Blk w b T #[v0, v1, v2, v3, v4]) : TokAt w b v0 v1 v2 v3 v4 :=
 ⟨h.cell 0, h.cell 1, h.cell 2, h.cell 3, h.cell 4, h.frozen 0, h.frozen 1, h.frozen 2, h.frozen 3, h.frozen 4⟩
theorem head_at (s : ByteArray) (h : 0 < s.size) : s.data.toList.head? = some s[0] := by
 have := drop_cons s 0 h; rw [List.drop_zero] at this; rw [this]; rfl
theorem One_letter (s : ByteArray) (h0 : 0 < s.size) (hs : s.size ≤ 9223372036854775800) (hc : isL s[0] = true) (w : World) :
 Calls Tryz.prog 23 #[.string s] w fun e w' => oneEnd (oneN s.data.toList) e ∧ Below w.heap.size w w' := by
 have i0 : (0 : Int) < (s.size : Int) := by omega
 have RL := qh (fun c w => rletter_any c w)
 have RD := qh (fun c w => rdigit_any c w)
 have HE1 : ∀ k, runN isP s.data.toList = k → 32 < k → oneN s.data.toList = .error 5 := fun k hk h32 => by
  unfold oneN; rw [head_at s h0]; simp only [Option.getD_some, hc, if_true]; rw [hk, if_pos h32]
 have HE2 : ∀ k, runN isP s.data.toList = k → ¬ 32 < k → ∀ b, isW (s.extract 0 k) = b → oneN s.data.toList = .ok (⟨if b then 6 else 1, s.extract 0 k, 0⟩, k) := fun k hk h32 b hb => by
  unfold oneN; rw [head_at s h0]; simp only [Option.getD_some, hc, if_true]; rw [hk, if_neg h32, ← ext_take, hb]
 have HE1' := qh HE1
 have HE2' := qh HE2
 clear HE1 HE2
 go_enter Tryz.func23, Tryz.ntmps23
 go_wp2_with fail
 ((with_reducible refine (RL.out _ _).mono ?_); rintro e w1 ⟨rfl, rfl⟩)
 go_wp2_with fail
 go_loop [5] (fun i => ∃ k : Nat, k ≤ s.size ∧ i = .int .i64 k ∧ Hid (runN isP s.data.toList = k + runN isP (s.data.toList.drop k))) (fun i => s.size - (intOf i).toNat)
 case atStart => exact ⟨0, Nat.zero_le _, rfl, qh (by simp)⟩
 case round =>
  obtain ⟨k, hk, rfl, HB⟩ := hrel
  have x0 : (0 : Int) ≤ (k : Int) := by omega
  have x2 : (k : Int) ≤ (s.size : Int) := by omega
  by_cases hlt : k < s.size
  case' pos =>
   have HD := qh (drop_cons s k hlt)
   have x1 : (k : Int) < (s.size : Int) := by omega
   go_wp2_with fail
   ((with_reducible refine (RL.out _ _).mono ?_); rintro e w1 ⟨rfl, rfl⟩)
   cases hl : isL s[k]
   case' true =>
    have hP : isP s[k] = true := by unfold isP; rw [hl]; rfl
    have HN := qh (show runN isP s.data.toList = (k + 1) + runN isP (s.data.toList.drop (k + 1)) by rw [HB.out, HD.out, runN_yes hP]; omega)
    clear HB HD hP
    go_wp2
    go_round
    case rel => exact ⟨k + 1, by omega, by go_num, HN⟩
    case measure => simp [intOf]; omega
   go_wp2_with fail
   ((with_reducible refine (RD.out _ _).mono ?_); rintro e w1 ⟨rfl, rfl⟩)
   cases hd : isD s[k]
   case' true =>
    have hP : isP s[k] = true := by unfold isP; rw [hl, hd]; rfl
    have HN := qh (show runN isP s.data.toList = (k + 1) + runN isP (s.data.toList.drop (k + 1)) by rw [HB.out, HD.out, runN_yes hP]; omega)
    clear HB HD hP
    go_wp2
    go_round
    case rel => exact ⟨k + 1, by omega, by go_num, HN⟩
    case measure => simp [intOf]; omega
   have HK := qh (show runN isP s.data.toList = k by rw [HB.out, HD.out, runN_no (by unfold isP; rw [hl, hd]; rfl)]; rfl)
   clear HD
  case' neg =>
   have HK := qh (show runN isP s.data.toList = k by rw [HB.out, List.drop_of_length_le (by simp; omega)]; rfl)
  all_goals
   clear HB
   by_cases h32 : 32 < k
   ·have HE := qh (HE1'.out k HK.out h32)
    clear HE1' HE2' HK
    have h32' : (32 : Int) < (k : Int) := by omega
    go_wp2
    (try simp only [Exit.inBlock, Exit.then])
    refine bodyPost_ret (tok_ret3 rfl _ _ w.heap.size _ _ _ _ _ rfl (Blk.new _ _ _)) rfl ?_
    exact ⟨by rw [HE.out]; simp [oneEnd, noTk, Tk.val, Tk.vals, C, fl_0], (Below.refl _ _).alloc nl _⟩
   ·have HE := qh (HE2'.out k HK.out h32)
    clear HE1' HE2' HK
    have h32' : ¬ (32 : Int) < (k : Int) := by omega
    go_wp2_with fail
    ((with_reducible refine (rWord_any _ _).mono ?_); rintro e w1 ⟨rfl, rfl⟩)
    have hB := (Blk.new w 40 #[.int .u8 0, .complex .f64 0 0, .complex .f64 0 0, .string ⟨#[]⟩, .int .i64 0]).alloc (.cells wordsV 9)
    have hBl : Hid (Below w.heap.size w ((w.alloc (.cells #[.int .u8 0, .complex .f64 0 0, .complex .f64 0 0, .string ⟨#[]⟩, .int .i64 0] 40)).alloc (.cells wordsV 9))) := qh (((Below.refl w.heap.size w).alloc nl _).alloc (by simp) _)
    generalize hW2 : (w.alloc (.cells #[.int .u8 0, .complex .f64 0 0, .complex .f64 0 0, .string ⟨#[]⟩, .int .i64 0] 40)).alloc (.cells wordsV 9) = W2 at *
    obtain ⟨m0, m1, m2, m3, m4, f0, f1, f2, f3, f4⟩ := hB.tok
    have HBK := qh hB
    clear hB hW2
    cases hw : isW (s.extract 0 k)
    all_goals
     have HE3 := qh (HE.out _ hw)
     go_wp2
     (try simp only [Exit.inBlock, Exit.then])
     refine bodyPost_ret (tok_ret3 rfl _ _ w.heap.size _ _ _ _ _ rfl (tok_stored HBK.out _ _ _ _ _)) rfl ?_
     exact ⟨by rw [HE3.out]; simp [oneEnd, Tk.val, Tk.vals, C, fl_0], below_stored hBl.out nl _ _ _ _ _⟩
theorem runN_all (p : UInt8 → Bool) (l : List UInt8) : ∀ c ∈ l.take (runN p l), p c = true := by
 induction l with
 | nil => simp
 | cons a r ih =>
   cases h : p a
   ·rw [runN_no h]; simp
   ·rw [runN_yes h, List.take_succ_cons]
    intro c hc
    rcases List.mem_cons.1 hc with rfl | hc
    ·exact h
    ·exact ih c hc
theorem isX_48 {c : UInt8} (h : isX c = true) : 48 ≤ c.toNat := by
 unfold isX isD at h
 simp only [Bool.or_eq_true, Bool.and_eq_true, decide_eq_true_eq] at h
 omega
theorem isX_of_isD {c : UInt8} (h : isD c = true) : isX c = true := by unfold isX; rw [h]; rfl
theorem not_isL_of_isD {c : UInt8} (h : isD c = true) : isL c = false := by
 unfold isD at h; unfold isL
 simp only [Bool.and_eq_true, decide_eq_true_eq] at h
 simp; omega
theorem take_data (s : ByteArray) (n : Nat) : (s.extract 0 n).data.toList = s.data.toList.take n := by rw [ext_take]; simp [bt]
structure DigitAt (s : ByteArray) (n : Nat) : Prop where
 len : 1 ≤ (s.extract 0 n).size
 big : (s.extract 0 n).size ≤ 9223372036854775800
 low : ∀ c ∈ (s.extract 0 n).data.toList, 48 ≤ c.toNat
 none : numN (s.extract 0 n).data.toList = none → oneN s.data.toList = .error 41
 some : ∀ t, numN (s.extract 0 n).data.toList = some t → oneN s.data.toList = .ok (t, n)
theorem digit_at (s : ByteArray) (h0 : 0 < s.size) (hs : s.size ≤ 9223372036854775800) (hd : isD s[0] = true) (k n : Nat) (hk : runN isX s.data.toList = k)
 (hn : n = k ∧ s.data.toList[k]? ≠ some 72 ∨ n = k + 1 ∧ s.data.toList[k]? = some 72) : DigitAt s n := by
 have hk1 : 1 ≤ k := by
  have := head_at s h0
  rcases hl : s.data.toList with _ | ⟨a, r⟩
  ·rw [hl] at this; cases this
  ·rw [hl] at this; injection this with this
   rw [← hk, hl, runN_yes (by rw [this]; exact isX_of_isD hd)]; omega
 have hkl : k ≤ s.data.toList.length := by rw [← hk]; exact runN_le _ _
 have hnl : n ≤ s.data.toList.length := by
  rcases hn with ⟨rfl, _⟩ | ⟨rfl, h⟩
  ·exact hkl
  ·obtain ⟨h, _⟩ := List.getElem?_eq_some_iff.1 h; omega
 have hsz : (s.extract 0 n).size = n := by simp at hnl ⊢; omega
 have hone : oneN s.data.toList = match numN (s.data.toList.take n) with | none => .error 41 | some t => .ok (t, n) := by
  unfold oneN
  rw [head_at s h0]
  simp only [Option.getD_some, not_isL_of_isD hd, hd, if_true, Bool.false_eq_true, if_false]
  rw [hk]
  rcases hn with ⟨rfl, h⟩ | ⟨rfl, h⟩
  ·rw [if_neg h] <;> (cases numN _ <;> rfl)
  ·rw [if_pos h] <;> (cases numN _ <;> rfl)
 refine ⟨by rcases hn with ⟨rfl, _⟩ | ⟨rfl, h⟩ <;> omega, by simp at hnl; omega, ?_, ?_, ?_⟩
 ·intro c hc
  rw [take_data] at hc
  rcases hn with ⟨rfl, _⟩ | ⟨rfl, h⟩
  ·rw [← hk] at hc; exact isX_48 (runN_all _ _ c hc)
  ·rw [List.take_add_one, h] at hc
   rcases List.mem_append.1 hc with hc | hc
   ·rw [← hk] at hc; exact isX_48 (runN_all _ _ c hc)
   ·simp at hc; subst hc; decide
 ·intro h; rw [hone]; rw [take_data] at h; rw [h]
 ·intro t h; rw [hone]; rw [take_data] at h; rw [h]
theorem One_digit (s : ByteArray) (h0 : 0 < s.size) (hs : s.size ≤ 9223372036854775800) (hc : isD s[0] = true) (w : World) :
 Calls Tryz.prog 23 #[.string s] w fun e w' => oneEnd (oneN s.data.toList) e ∧ Below w.heap.size w w' := by
 have i0 : (0 : Int) < (s.size : Int) := by omega
 have RL := qh (fun c w => rletter_any c w)
 have RD := qh (fun c w => rdigit_any c w)
 have hl0 := not_isL_of_isD hc
 have HDA := qh (digit_at s h0 hs hc)
 go_enter Tryz.func23, Tryz.ntmps23
 go_wp2_with fail
 ((with_reducible refine (RL.out _ _).mono ?_); rintro e w1 ⟨rfl, rfl⟩)
 go_wp2_with fail
 ((with_reducible refine (RD.out _ _).mono ?_); rintro e w1 ⟨rfl, rfl⟩)
 go_wp2_with fail
 go_loop [5] (fun i => ∃ k : Nat, k ≤ s.size ∧ i = .int .i64 k ∧ Hid (runN isX s.data.toList = k + runN isX (s.data.toList.drop k))) (fun i => s.size - (intOf i).toNat)
 case atStart => exact ⟨0, Nat.zero_le _, rfl, qh (by simp)⟩
 case round =>
  obtain ⟨k, hk, rfl, HB⟩ := hrel
  have x0 : (0 : Int) ≤ (k : Int) := by omega
  have x2 : (k : Int) ≤ (s.size : Int) := by omega
  by_cases hlt : k < s.size
  case' pos =>
   have HD := qh (drop_cons s k hlt)
   have HA : Hid (s.data.toList[k]? = some s[k]) := qh (by have := congrArg List.head? HD.out; rw [List.head?_drop] at this; rw [this]; rfl)
   have x1 : (k : Int) < (s.size : Int) := by omega
   go_wp2_with fail
   ((with_reducible refine (RD.out _ _).mono ?_); rintro e w1 ⟨rfl, rfl⟩)
   cases hd : isD s[k]
   case' true =>
    have hP : isX s[k] = true := isX_of_isD hd
    have HN := qh (show runN isX s.data.toList = (k + 1) + runN isX (s.data.toList.drop (k + 1)) by rw [HB.out, HD.out, runN_yes hP]; omega)
    clear HB HD hP
    go_wp2
    go_round
    case rel => exact ⟨k + 1, by omega, by go_num, HN⟩
    case measure => simp [intOf]; omega
   by_cases hx : 65 ≤ s[k].toNat ∧ s[k].toNat ≤ 70
   case' pos =>
    have hP : isX s[k] = true := by unfold isX; simp; exact .inr hx
    have HN := qh (show runN isX s.data.toList = (k + 1) + runN isX (s.data.toList.drop (k + 1)) by rw [HB.out, HD.out, runN_yes hP]; omega)
    obtain ⟨hx1, hx2⟩ := hx
    clear HB HD hP
    go_wp2
    go_round
    case rel => exact ⟨k + 1, by omega, by go_num, HN⟩
    case measure => simp [intOf]; omega
   have HK := qh (show runN isX s.data.toList = k by rw [HB.out, HD.out, runN_no (by unfold isX; rw [hd]; simp; omega)]; rfl)
   clear HD HB
   by_cases h72 : s[k] = 72
   case' pos =>
    have HF := HDA.out k (k + 1) HK.out (.inr ⟨rfl, by rw [HA.out, h72]⟩)
    have y1 : (65 : Int) ≤ (s[k].toNat : Int) := by rw [h72]; decide
    have y2 : ¬ (s[k].toNat : Int) ≤ 70 := by rw [h72]; decide
    have y3 : ((s[k].toNat : Int) == 72) = true := by rw [h72]; rfl
    clear h72 hx HA HDA HK
    go_wp2_with fail
   case' neg =>
    have HF := HDA.out k k HK.out (.inl ⟨rfl, by rw [HA.out]; intro e; injection e with e; exact h72 e⟩)
    have y3 : ((s[k].toNat : Int) == 72) = false := by
     simp only [beq_eq_false_iff_ne, ne_eq]
     exact fun e => h72 (UInt8.toNat_inj.1 (by rw [show (72 : UInt8).toNat = 72 from rfl]; omega))
    clear h72 HA HDA HK
    by_cases h65 : 65 ≤ s[k].toNat
    all_goals
     go_wp2_with fail
  case' neg =>
   have HK := qh (show runN isX s.data.toList = k by rw [HB.out, List.drop_of_length_le (by simp; omega)]; rfl)
   have HF := HDA.out k k HK.out (.inl ⟨rfl, by rw [List.getElem?_eq_none (by simp; omega)]; simp⟩)
   clear HB HDA HK
   go_wp2_with fail
  all_goals
   (with_reducible refine (number_any _ HF.len HF.big HF.low _).mono ?_)
   rintro e w1 ⟨⟨⟨tk, tt, tn⟩, rfl, ht⟩, hb⟩
   have hz := hb.size
   have hB := (Blk.new w 40 #[.int .u8 0, .complex .f64 0 0, .complex .f64 0 0, .string ⟨#[]⟩, .int .i64 0])
   have hlt1 : w.heap.size < (w.alloc (.cells #[.int .u8 0, .complex .f64 0 0, .complex .f64 0 0, .string ⟨#[]⟩, .int .i64 0] 40)).heap.size := by rw [World.size_alloc]; exact Nat.lt_succ_self _
   have hB := hB.below hb hlt1
   have hBl : Hid (Below w.heap.size w w1) := qh (((Below.refl w.heap.size w).alloc nl _).trans (hb.mono (Nat.le_of_lt hlt1)))
   obtain ⟨m0, m1, m2, m3, m4, f0, f1, f2, f3, f4⟩ := hB.tok
   have HBK := qh hB
   have HT := qh ht
   have HFN := qh HF.none
   have HFS := qh HF.some
   have hlt0 : w.heap.size < w1.heap.size := by omega
   clear hB hb ht HF hz hlt1
   simp only [Tk.val, Tk.vals, C, fl_0]
   generalize numN _ = NN at *
   cases NN with
   | none =>
     have HE := HFN.out rfl
     have HE2 := qh HE
     clear HE HFN HFS HT
     simp only [Option.isSome_none]
     go_wp2
     (try simp only [Exit.inBlock, Exit.then])
     refine bodyPost_ret (tok_ret3 rfl _ _ w.heap.size _ _ _ _ _ rfl ((tok_stored HBK.out _ _ _ _ _).alloc _)) rfl ?_
     exact ⟨by rw [HE2.out]; simp [oneEnd, noTk, Tk.val, Tk.vals, C, fl_0], (below_stored hBl.out nl _ _ _ _ _).alloc (by simp only [World.size_setCell]; exact Nat.le_of_lt hlt0) _⟩
   | some t =>
     have HE := HFS.out _ rfl
     have ht := HT.out _ rfl
     subst ht
     have HE2 := qh HE
     clear HE HFN HFS HT
     simp only [Option.isSome_some]
     go_wp2
     (try simp only [Exit.inBlock, Exit.then])
     refine bodyPost_ret (tok_ret3 rfl _ _ w.heap.size _ _ _ _ _ rfl ((tok_stored HBK.out _ _ _ _ _).alloc _)) rfl ?_
     exact ⟨by rw [HE2.out]; simp [oneEnd, Tk.val, Tk.vals, C, fl_0], (below_stored hBl.out nl _ _ _ _ _).alloc (by simp only [World.size_setCell]; exact Nat.le_of_lt hlt0) _⟩
def isQ (c : UInt8) (x : UInt8) : Bool := x != c && x != 10
theorem one_quote (s : ByteArray) (h0 : 0 < s.size) (hl : isL s[0] = false) (hd : isD s[0] = false) (hq : s[0] = 34 ∨ s[0] = 39) (k : Nat) (hk1 : 1 ≤ k) (hk : runN (isQ s[0]) (s.data.toList.drop 1) = k - 1) :
 ((s.data.toList[k]? = none ∨ s.data.toList[k]? = some 10) → oneN s.data.toList = .error 42) ∧
 (¬ (s.data.toList[k]? = none ∨ s.data.toList[k]? = some 10) → oneN s.data.toList = .ok (⟨4, s.extract 1 k, 0⟩, k + 1)) := by
 have hone : oneN s.data.toList = if s.data.toList[k]? = none ∨ s.data.toList[k]? = some 10 then .error 42 else .ok (⟨4, bt ((s.data.toList.take k).drop 1), 0⟩, k + 1) := by
  unfold oneN
  rw [head_at s h0]
  simp only [Option.getD_some, hl, hd, hq, if_true, Bool.false_eq_true, if_false]
  have e : runN (fun x => x != s[0] && x != 10) s.data.toList.tail = k - 1 := by rw [← hk, List.drop_one]; rfl
  rw [e, show 1 + (k - 1) = k from by omega]
 constructor
 ·intro h; rw [hone, if_pos h]
 ·intro h; rw [hone, if_neg h]
  have : s.extract 1 k = bt ((s.data.toList.take k).drop 1) := by
   apply bytes_ext
   rw [ByteArray.data_extract, Array.toList_extract, List.extract_eq_take_drop]
   simp [bt, List.drop_take]
  rw [this]
theorem ne_of_eq {a b : Int} {c : Bool} (h : (a == b) = c) : (a != b) = !c := by simp [bne, h]
theorem One_quote (s : ByteArray) (h0 : 0 < s.size) (hs : s.size ≤ 9223372036854775800) (hl0 : isL s[0] = false) (hd0 : isD s[0] = false) (hq : s[0] = 34 ∨ s[0] = 39) (w : World) :
 Calls Tryz.prog 23 #[.string s] w fun e w' => oneEnd (oneN s.data.toList) e ∧ Below w.heap.size w w' := by
 have i0 : (0 : Int) < (s.size : Int) := by omega
 have RL := qh (fun c w => rletter_any c w)
 have RD := qh (fun c w => rdigit_any c w)
 have HQA := qh (one_quote s h0 hl0 hd0 hq)
 have q34 : s[0] = 34 → ((s[0].toNat : Int) == 34) = true := fun h => by rw [h]; rfl
 have q34' : s[0] = 39 → ((s[0].toNat : Int) == 34) = false := fun h => by rw [h]; rfl
 have q39 : s[0] = 39 → ((s[0].toNat : Int) == 39) = true := fun h => by rw [h]; rfl
 go_enter Tryz.func23, Tryz.ntmps23
 go_wp2_with fail
 ((with_reducible refine (RL.out _ _).mono ?_); rintro e w1 ⟨rfl, rfl⟩)
 go_wp2_with fail
 ((with_reducible refine (RD.out _ _).mono ?_); rintro e w1 ⟨rfl, rfl⟩)
 rcases hq with hq | hq
 case' inl =>
  have t1 := q34 hq
  clear q34 q34' q39 hq
  go_wp2_with fail
 case' inr =>
  have t1 := q34' hq
  have t2 := q39 hq
  clear q34 q34' q39 hq
  go_wp2_with fail
 all_goals
  go_loop [5] (fun i => ∃ k : Nat, 1 ≤ k ∧ k ≤ s.size ∧ i = .int .i64 k ∧ Hid (runN (isQ s[0]) (s.data.toList.drop 1) = (k - 1) + runN (isQ s[0]) (s.data.toList.drop k))) (fun i => s.size - (intOf i).toNat)
  case atStart => exact ⟨1, Nat.le_refl _, by omega, rfl, qh (by simp)⟩
  case round =>
   obtain ⟨k, hk1, hk, rfl, HB⟩ := hrel
   have x0 : (0 : Int) ≤ (k : Int) := by omega
   have x00 : (1 : Int) ≤ (k : Int) := by omega
   have x2 : (k : Int) ≤ (s.size : Int) := by omega
   rcases Nat.lt_or_ge k s.size with hlt | hge
   case' inl =>
    have HD := qh (drop_cons s k hlt)
    have HA : Hid (s.data.toList[k]? = some s[k]) := qh (by have := congrArg List.head? HD.out; rw [List.head?_drop] at this; rw [this]; rfl)
    have x1 : (k : Int) < (s.size : Int) := by omega
    have z1 : ((k : Int) == (s.size : Int)) = false := by simp only [beq_eq_false_iff_ne, ne_eq]; omega
    by_cases hc : s[k] = s[0]
    case' pos =>
     have HK := qh (show runN (isQ s[0]) (s.data.toList.drop 1) = k - 1 by rw [HB.out, HD.out, runN_no (by unfold isQ; rw [hc]; simp)]; rfl)
     have y1 : ((s[k].toNat : Int) == (s[0].toNat : Int)) = true := by rw [hc]; simp
     have y2 : ((s[k].toNat : Int) == 10) = false := by
      rw [hc]
      generalize s[0] = c at *
      revert t1
      simp only [beq_eq_false_iff_ne, ne_eq]
      intro t1 e
      rw [e] at t1
      first
       | cases t1
       | (rw [e] at t2; cases t2)
     have HE := qh ((HQA.out k hk1 HK.out).2 (by rw [HA.out]; simp; intro e; rw [e] at y2; cases y2))
     have y1n : ((s[k].toNat : Int) != (s[0].toNat : Int)) = false := ne_of_eq y1
     have y2n : ((s[k].toNat : Int) != 10) = true := ne_of_eq y2
     clear HB HD HA HQA HK hc
     go_wp2
    case' neg =>
     have y1 : ((s[k].toNat : Int) == (s[0].toNat : Int)) = false := by
      simp only [beq_eq_false_iff_ne, ne_eq]; exact fun e => hc (UInt8.toNat_inj.1 (by omega))
     by_cases h10 : s[k] = 10
     case' pos =>
      have HK := qh (show runN (isQ s[0]) (s.data.toList.drop 1) = k - 1 by rw [HB.out, HD.out, runN_no (by unfold isQ; rw [h10]; simp)]; rfl)
      have y2 : ((s[k].toNat : Int) == 10) = true := by rw [h10]; rfl
      have HE := qh ((HQA.out k hk1 HK.out).1 (by rw [HA.out, h10]; exact .inr rfl))
      have y1n : ((s[k].toNat : Int) != (s[0].toNat : Int)) = true := ne_of_eq y1
      have y2n : ((s[k].toNat : Int) != 10) = false := ne_of_eq y2
      clear HB HD HA HQA HK hc h10 y1
      go_wp2
     case' neg =>
      have y2 : ((s[k].toNat : Int) == 10) = false := by
       simp only [beq_eq_false_iff_ne, ne_eq]; exact fun e => h10 (UInt8.toNat_inj.1 (by rw [show (10 : UInt8).toNat = 10 from rfl]; omega))
      have HN := qh (show runN (isQ s[0]) (s.data.toList.drop 1) = (k + 1 - 1) + runN (isQ s[0]) (s.data.toList.drop (k + 1)) by
       rw [HB.out, HD.out, runN_yes (by unfold isQ; simp [hc, h10])]; omega)
      have y1n : ((s[k].toNat : Int) != (s[0].toNat : Int)) = true := ne_of_eq y1
      have y2n : ((s[k].toNat : Int) != 10) = true := ne_of_eq y2
      clear HB HD HA HQA hc h10 z1 x00
      go_wp2
      go_round
      case rel => exact ⟨k + 1, by omega, by omega, by go_num, HN⟩
      case measure => simp [intOf]; omega
   case' inr =>
    have hke : k = s.size := by omega
    have z1 : ((k : Int) == (s.size : Int)) = true := by simp only [beq_iff_eq]; omega
    have HK := qh (show runN (isQ s[0]) (s.data.toList.drop 1) = k - 1 by rw [HB.out, List.drop_of_length_le (by simp; omega)]; rfl)
    have HE := qh ((HQA.out k hk1 HK.out).1 (by rw [List.getElem?_eq_none (by simp; omega)]; exact .inl rfl))
    clear HB HQA HK hke
    go_wp2
   all_goals
    (try simp only [Exit.inBlock, Exit.then])
    refine bodyPost_ret (tok_ret3 rfl _ _ w.heap.size _ _ _ _ _ rfl (Blk.new _ _ _)) rfl ?_
    exact ⟨by rw [HE.out]; first | (simp [oneEnd, noTk, Tk.val, Tk.vals, C, fl_0]; done) | (simp [oneEnd, Tk.val, Tk.vals, C, fl_0]; done), (Below.refl _ _).alloc nl _⟩
theorem one_symbol (s : ByteArray) (h0 : 0 < s.size) (hl : isL s[0] = false) (hd : isD s[0] = false) (hq : ¬ (s[0] = 34 ∨ s[0] = 39)) :
 (symN s.data.toList = 0 → oneN s.data.toList = .error 40) ∧ (∀ n, symN s.data.toList = n → n ≠ 0 → oneN s.data.toList = .ok (plainT (s.extract 0 n), n)) := by
 have hone : oneN s.data.toList = if symN s.data.toList = 0 then .error 40 else .ok (plainT (bt (s.data.toList.take (symN s.data.toList))), symN s.data.toList) := by
  unfold oneN
  rw [head_at s h0]
  simp only [Option.getD_some, hl, hd, hq, Bool.false_eq_true, if_false]
 constructor
 ·intro h; rw [hone, if_pos h]
 ·rintro n rfl hn; rw [hone, if_neg hn, ext_take]
theorem symN_le (s : List UInt8) (h : s ≠ []) : symN s ≤ s.length := by
 unfold symN
 split
 ·rename_i h2
  obtain ⟨x, hx, e⟩ := List.any_eq_true.1 h2
  have := twos_size x hx
  have e := eq_of_beq e
  rw [e] at this
  simp at this
  omega
 ·split
  ·rcases s with _ | ⟨a, r⟩
   ·exact absurd rfl h
   ·simp
  ·omega
theorem One_symbol (s : ByteArray) (h0 : 0 < s.size) (hs : s.size ≤ 9223372036854775800) (hl0 : isL s[0] = false) (hd0 : isD s[0] = false) (hq : ¬ (s[0] = 34 ∨ s[0] = 39)) (w : World) :
 Calls Tryz.prog 23 #[.string s] w fun e w' => oneEnd (oneN s.data.toList) e ∧ Below w.heap.size w w' := by
 have i0 : (0 : Int) < (s.size : Int) := by omega
 have RL := qh (fun c w => rletter_any c w)
 have RD := qh (fun c w => rdigit_any c w)
 have SY := qh (fun w => symbol_any s h0 hs w)
 obtain ⟨hs0, hs1⟩ := one_symbol s h0 hl0 hd0 hq
 have HS0 := qh hs0
 have HS1 := qh hs1
 have hsl := symN_le s.data.toList (by intro e; have h1 := congrArg List.length e; rw [Array.length_toList, ByteArray.size_data] at h1; simp only [List.length_nil] at h1; omega)
 have hsl' : symN s.data.toList ≤ s.size := by simpa using hsl
 clear hs0 hs1 hsl
 have q34 : ((s[0].toNat : Int) == 34) = false := by
  simp only [beq_eq_false_iff_ne, ne_eq]; exact fun e => hq (.inl (UInt8.toNat_inj.1 (by rw [show (34 : UInt8).toNat = 34 from rfl]; omega)))
 have q39 : ((s[0].toNat : Int) == 39) = false := by
  simp only [beq_eq_false_iff_ne, ne_eq]; exact fun e => hq (.inr (UInt8.toNat_inj.1 (by rw [show (39 : UInt8).toNat = 39 from rfl]; omega)))
 clear hq
 go_enter Tryz.func23, Tryz.ntmps23
 go_wp2_with fail
 ((with_reducible refine (RL.out _ _).mono ?_); rintro e w1 ⟨rfl, rfl⟩)
 go_wp2_with fail
 ((with_reducible refine (RD.out _ _).mono ?_); rintro e w1 ⟨rfl, rfl⟩)
 go_wp2_with fail
 ((with_reducible refine (SY.out _).mono ?_); rintro e w1 ⟨rfl, hb⟩)
 have hz := hb.size
 have hB := (Blk.new w 40 #[.int .u8 0, .complex .f64 0 0, .complex .f64 0 0, .string ⟨#[]⟩, .int .i64 0])
 have hlt1 : w.heap.size < (w.alloc (.cells #[.int .u8 0, .complex .f64 0 0, .complex .f64 0 0, .string ⟨#[]⟩, .int .i64 0] 40)).heap.size := by rw [World.size_alloc]; exact Nat.lt_succ_self _
 have hB := hB.below hb hlt1
 have hBl : Hid (Below w.heap.size w w1) := qh (((Below.refl w.heap.size w).alloc nl _).trans (hb.mono (Nat.le_of_lt hlt1)))
 have hlt0 : w.heap.size < w1.heap.size := Nat.lt_of_lt_of_le hlt1 hz
 have HBK := qh hB
 clear hb hz hlt1
 generalize symN s.data.toList = n at *
 by_cases hn : n = 0
 ·subst hn
  obtain ⟨m0, m1, m2, m3, m4, f0, f1, f2, f3, f4⟩ := hB.tok
  have HE := qh (HS0.out rfl)
  clear HS0 HS1 hB
  go_wp2
  (try simp only [Exit.inBlock, Exit.then])
  refine bodyPost_ret (tok_ret3 rfl _ _ w.heap.size _ _ _ _ _ rfl (tok_stored HBK.out _ _ _ _ _)) rfl ?_
  exact ⟨by rw [HE.out]; simp [oneEnd, noTk, Tk.val, Tk.vals, C, fl_0], below_stored hBl.out nl _ _ _ _ _⟩
 ·have HE := qh (HS1.out n rfl hn)
  have n0 : ((n : Int) == 0) = false := by simp only [beq_eq_false_iff_ne, ne_eq]; omega
  have x0 : (0 : Int) ≤ (n : Int) := by omega
  have x2 : (n : Int) ≤ (s.size : Int) := by omega
  clear HS0 HS1 hn hB
  go_wp2_with fail
  ((with_reducible refine (plain_any _ _).mono ?_); rintro e w2 ⟨rfl, hb⟩)
  have hB := HBK.out.below hb hlt0
  have hBl2 : Hid (Below w.heap.size w w2) := qh (hBl.out.trans (hb.mono (Nat.le_of_lt hlt0)))
  obtain ⟨m0, m1, m2, m3, m4, f0, f1, f2, f3, f4⟩ := hB.tok
  have HB2 := qh hB
  generalize plainT _ = tk at *
  obtain ⟨tk, tt, tn⟩ := tk
  clear hB hb HBK hBl
  simp only [Tk.val, Tk.vals, C, fl_0]
  go_wp2
  (try simp only [Exit.inBlock, Exit.then])
  refine bodyPost_ret (tok_ret3 rfl _ _ w.heap.size _ _ _ _ _ rfl (tok_stored HB2.out _ _ _ _ _)) rfl ?_
  exact ⟨by rw [HE.out]; simp [oneEnd, Tk.val, Tk.vals, C, fl_0], below_stored hBl2.out nl _ _ _ _ _⟩
theorem One_any (s : ByteArray) (h0 : 0 < s.size) (hs : s.size ≤ 9223372036854775800) (w : World) :
 Calls Tryz.prog 23 #[.string s] w fun e w' => oneEnd (oneN s.data.toList) e ∧ Below w.heap.size w w' := by
 cases hl : isL s[0]
 ·cases hd : isD s[0]
  ·by_cases hq : s[0] = 34 ∨ s[0] = 39
   ·exact One_quote s h0 hs hl hd hq w
   ·exact One_symbol s h0 hs hl hd hq w
  ·exact One_digit s h0 hs hd w
 ·exact One_letter s h0 hs hl w
end Lx
namespace Lx
open Go.RowKit
open Pl Fl
def isB (c : UInt8) : Bool := c == 9 || c == 10 || c == 13 || c == 32
inductive Item where
 | blank (n : Nat)
 | tok (t : Tk) (n : Nat)
 | bad (e : Nat)
def item (s : List UInt8) : Item :=
 if isB (s.head?.getD 0) then .blank 1
 else if s.take 2 = [40, 42] then (if cmt 0 0 s = 0 then .bad 43 else .blank (cmt 0 0 s))
 else match oneN s with
  | .error e => .bad e
  | .ok (t, n) => .tok t n
abbrev Tok := Tk × Nat × Nat
def scanF : Nat → Nat → List UInt8 → Except (Nat × Nat) (List Tok)
 | 0, i, _ => .error (i, 0)
 | f + 1, i, s => if s = [] then .ok [(noTk, i, i)] else match item s with
   | .bad e => .error (i, e)
   | .blank n => scanF f (i + n) (s.drop n)
   | .tok t n => (scanF f (i + n) (s.drop n)).map ((t, i, i + n) :: ·)
def scanL (s : List UInt8) : Except (Nat × Nat) (List Tok) := if 16384 < s.length then .error (0, 5) else scanF (s.length + 1) 0 s
def at_ (s : List UInt8) (i : Nat) : Nat × Nat := behN (1, 1) (s.take i)
def Tok.vals (s : List UInt8) (t : Tok) : List Value := t.1.vals (at_ s t.2.1) (at_ s t.2.2)
def flat (s : List UInt8) (l : List Tok) : List Value := l.flatMap (Tok.vals s)
theorem tok_vals_len (s : List UInt8) (t : Tok) : (Tok.vals s t).length = 5 := rfl
theorem flat_len (s : List UInt8) (l : List Tok) : (flat s l).length = l.length * 5 := by
 induction l with
 | nil => rfl
 | cons t l ih => simp only [flat, List.flatMap_cons, List.length_append, tok_vals_len, List.length_cons] at ih ⊢; omega
theorem flat_snoc (s : List UInt8) (l : List Tok) (t : Tok) : flat s (l ++ [t]) = flat s l ++ Tok.vals s t := by simp [flat]
theorem behN_app (p : Nat × Nat) (a b : List UInt8) : behN p (a ++ b) = behN (behN p a) b := by
 induction a generalizing p with
 | nil =>
   cases hp : isN p
   ·rw [behN_out hp, behN_out (l := []) hp, behN_out (p := (0, 0)) rfl]
   ·simp [behN, hp]
 | cons c a ih =>
   cases hp : isN p
   ·rw [behN_out hp, behN_out hp, behN_out (p := (0, 0)) rfl]
   ·rw [List.cons_append, behN_cons hp, behN_cons hp, ih]
theorem at_add (s : List UInt8) (i n : Nat) : behN (at_ s i) ((s.drop i).take n) = at_ s (i + n) := by
 unfold at_; rw [← behN_app, ← List.take_add]
theorem behN_bd (l : List UInt8) : ∀ (p : Nat × Nat) (m : Nat), isN p = true → p.1 + l.length ≤ m → p.2 + l.length ≤ m → m ≤ 1073741824 → isN (behN p l) = true ∧ (behN p l).1 ≤ m ∧ (behN p l).2 ≤ m := by
 induction l with
 | nil => intro p m hp h1 h2 hm; simp [behN, hp] at h1 h2 ⊢; omega
 | cons c l ih =>
   intro p m hp h1 h2 hm
   simp only [List.length_cons] at h1 h2
   obtain ⟨⟨q1, q2⟩, q3, q4⟩ := isN_bd hp
   rw [behN_cons hp]
   have hs : isN (stepN p c) = true ∧ (stepN p c).1 ≤ p.1 + 1 ∧ (stepN p c).2 ≤ p.2 + 1 := by
    unfold stepN
    split
    ·exact ⟨by simp [isN, inN]; omega, by omega, by simp⟩
    ·exact ⟨by simp [isN, inN]; omega, by simp, by simp⟩
   exact ih _ m hs.1 (by omega) (by omega) hm
theorem at_is (s : List UInt8) (hs : s.length ≤ 16384) (i : Nat) : isN (at_ s i) = true ∧ (at_ s i).1 ≤ 16385 ∧ (at_ s i).2 ≤ 16385 := by
 have hl : (s.take i).length ≤ 16384 := by rw [List.length_take]; omega
 exact behN_bd (s.take i) (1, 1) 16385 rfl (by simp only; omega) (by simp only; omega) (by omega)
theorem cmt_bd : ∀ (m : Nat) (d : Int) (i : Nat) (s : List UInt8), s.length ≤ m → cmt d i s = 0 ∨ (i + 2 ≤ cmt d i s ∧ cmt d i s ≤ i + s.length) := by
 intro m
 induction m with
 | zero => intro d i s h; have : s = [] := List.length_eq_zero_iff.1 (by omega); subst this; exact .inl rfl
 | succ m ih =>
   intro d i s h
   rcases s with _ | ⟨a, _ | ⟨b, r⟩⟩
   ·exact .inl rfl
   ·exact .inl rfl
   ·simp only [List.length_cons] at h
    have e1 := ih (d + 1) (i + 2) r (by omega)
    have e2 := ih (d - 1) (i + 2) r (by omega)
    have e3 := ih d (i + 1) (b :: r) (by simp only [List.length_cons]; omega)
    unfold cmt
    simp only [List.length_cons] at e3 ⊢
    split
    ·omega
    ·split
     ·split <;> omega
     ·omega
theorem runN_pos {p : UInt8 → Bool} {s : List UInt8} (h : p (s.head?.getD 0) = true) (hs : s ≠ []) : 1 ≤ runN p s := by
 rcases s with _ | ⟨a, r⟩
 ·exact absurd rfl hs
 ·rw [runN_yes (by simpa using h)]; omega
theorem oneN_bd (s : List UInt8) (hs : s ≠ []) (t : Tk) (n : Nat) (h : oneN s = .ok (t, n)) : 1 ≤ n ∧ n ≤ s.length := by
 have hl : 1 ≤ s.length := by
  rcases s with _ | ⟨a, r⟩
  ·exact absurd rfl hs
  ·simp
 unfold oneN at h
 dsimp only at h
 split at h
 ·rename_i hc
  have h1 := runN_pos (p := isP) (s := s) (by unfold isP; rw [hc]; rfl) hs
  have h2 := runN_le isP s
  split at h
  ·cases h
  ·injection h with h; injection h with h3 h4; omega
 ·split at h
  ·rename_i hc
   have h1 := runN_pos (p := isX) (s := s) (isX_of_isD hc) hs
   have h2 := runN_le isX s
   split at h
   ·cases h
   ·injection h with h; injection h with h3 h4
    split at h4
    ·rename_i h72
     obtain ⟨h5, _⟩ := List.getElem?_eq_some_iff.1 h72
     omega
    ·omega
  ·split at h
   ·split at h
    ·cases h
    ·rename_i hn
     injection h with h; injection h with h3 h4
     have : s[1 + runN (fun x => x != s.head?.getD 0 && x != 10) s.tail]? ≠ none := fun e => hn (.inl e)
     rw [ne_eq, List.getElem?_eq_none_iff] at this
     omega
   ·have h1 := symN_le s hs
    split at h
    ·cases h
    ·injection h with h; injection h with h3 h4
     omega
theorem item_bd (s : List UInt8) (hs : s ≠ []) : (∀ n, item s = .blank n → 1 ≤ n ∧ n ≤ s.length) ∧ (∀ t n, item s = .tok t n → 1 ≤ n ∧ n ≤ s.length) := by
 have hl : 1 ≤ s.length := by
  rcases s with _ | ⟨a, r⟩
  ·exact absurd rfl hs
  ·simp
 have hb := cmt_bd s.length 0 0 s nl
 constructor
 ·intro n h
  unfold item at h
  split at h
  ·injection h with h; omega
  ·split at h
   ·split at h
    ·cases h
    ·injection h with h; omega
   ·split at h
    ·cases h
    ·cases h
 ·intro t n h
  unfold item at h
  split at h
  ·cases h
  ·split at h
   ·split at h
    ·cases h
    ·cases h
   ·split at h
    ·cases h
    ·rename_i t' n' e
     injection h with h1 h2
     subst h1 h2
     exact oneN_bd s hs _ _ e
theorem map_map_e {α β γ ε : Type} (f : α → β) (g : β → γ) (x : Except ε α) : (x.map f).map g = x.map (g ∘ f) := by cases x <;> rfl
theorem scanF_fuel : ∀ (m : Nat) (s : List UInt8) (f g i : Nat), s.length ≤ m → s.length < f → s.length < g → scanF f i s = scanF g i s := by
 intro m
 induction m with
 | zero =>
   intro s f g i hm hf hg
   have : s = [] := List.length_eq_zero_iff.1 (by omega)
   subst this
   rcases f with _ | f
   ·simp at hf
   rcases g with _ | g
   ·simp at hg
   rfl
 | succ m ih =>
   intro s f g i hm hf hg
   rcases f with _ | f
   ·omega
   rcases g with _ | g
   ·omega
   unfold scanF
   by_cases hs : s = []
   ·rw [if_pos hs, if_pos hs]
   ·rw [if_neg hs, if_neg hs]
    obtain ⟨h1, h2⟩ := item_bd s hs
    cases h : item s with
    | bad k => rfl
    | blank n =>
      have := h1 n h
      exact ih _ _ _ _ (by rw [List.length_drop]; omega) (by rw [List.length_drop]; omega) (by rw [List.length_drop]; omega)
    | tok t n =>
      have := h2 t n h
      dsimp only
      rw [ih (s.drop n) f g _ (by rw [List.length_drop]; omega) (by rw [List.length_drop]; omega) (by rw [List.length_drop]; omega)]
def scanAt (src : List UInt8) (i : Nat) : Except (Nat × Nat) (List Tok) := scanF ((src.drop i).length + 1) i (src.drop i)
section
variable {src : List UInt8} {i : Nat}
theorem scanAt_end (h : src.length ≤ i) : scanAt src i = .ok [(noTk, i, i)] := by
 unfold scanAt; rw [List.drop_of_length_le h]; rfl
theorem drop_ne (h : i < src.length) : src.drop i ≠ [] := by
 intro e; have := congrArg List.length e; rw [List.length_drop] at this; simp at this; omega
theorem scanAt_step (h : i < src.length) : scanAt src i = match item (src.drop i) with
 | .bad e => .error (i, e)
 | .blank n => scanAt src (i + n)
 | .tok t n => (scanAt src (i + n)).map ((t, i, i + n) :: ·) := by
 have hs := drop_ne h
 obtain ⟨h1, h2⟩ := item_bd _ hs
 unfold scanAt
 rw [scanF, if_neg hs]
 cases hc : item (src.drop i) with
 | bad k => rfl
 | blank n =>
   have := h1 n hc
   simp only [List.drop_drop]
   refine scanF_fuel _ _ _ _ _ nl ?_ (by omega)
   rw [List.length_drop] at this ⊢
   rw [List.length_drop]; omega
 | tok t n =>
   have := h2 t n hc
   simp only [List.drop_drop]
   rw [scanF_fuel _ _ (src.drop i).length ((src.drop (i + n)).length + 1) _ nl ?_ (by omega)]
   rw [List.length_drop] at this ⊢
   rw [List.length_drop]; omega
theorem scanAt_bad (h : i < src.length) {k : Nat} (hc : item (src.drop i) = .bad k) : scanAt src i = .error (i, k) := by rw [scanAt_step h, hc]
theorem scanAt_blank (h : i < src.length) {n : Nat} (hc : item (src.drop i) = .blank n) : scanAt src i = scanAt src (i + n) := by rw [scanAt_step h, hc]
theorem scanAt_tok (h : i < src.length) {t : Tk} {n : Nat} (hc : item (src.drop i) = .tok t n) : scanAt src i = (scanAt src (i + n)).map ((t, i, i + n) :: ·) := by rw [scanAt_step h, hc]
theorem scanL_eq : scanL src = if 16384 < src.length then .error (0, 5) else scanAt src 0 := rfl
theorem item_in (h : i < src.length) : (∀ n, item (src.drop i) = .blank n → 1 ≤ n ∧ i + n ≤ src.length) ∧ (∀ t n, item (src.drop i) = .tok t n → 1 ≤ n ∧ i + n ≤ src.length) := by
 obtain ⟨h1, h2⟩ := item_bd _ (drop_ne h)
 rw [List.length_drop] at h1 h2
 exact ⟨fun n hn => by have := h1 n hn; omega, fun t n hn => by have := h2 t n hn; omega⟩
end
theorem oneN_err (s : List UInt8) (k : Nat) (h : oneN s = .error k) : k = 5 ∨ k = 40 ∨ k = 41 ∨ k = 42 := by
 unfold oneN at h
 dsimp only at h
 split at h
 ·split at h
  ·injection h with h; omega
  ·cases h
 ·split at h
  ·split at h
   ·injection h with h; omega
   ·cases h
  ·split at h
   ·split at h
    ·injection h with h; omega
    ·cases h
   ·split at h
    ·injection h with h; omega
    ·cases h
end Lx
end Go.Proofs.YtkemhmfdooghkaaGreatDoor
