/- A part of the proof: R8, R9, R10, Base, T1, T2. -/
import Derived.Test.YtecmjhohniipoaaZ2
import Derived.Deep.RegionLaw
import Derived.Deep.AppendLies
import Derived.Deep.DrawnRows
import Derived.WalkKit
import Derived.WalkSpells
import Derived.WalkLawsBesides
import Derived.Lib.Hide
import Derived.Laws.OwnMore
import Derived.Deep.Draws
import Derived.Test.YtecmjhohniipoaaZ1
import Derived.Test.YtecmjhohniipoaaProg
set_option linter.unusedSimpArgs false
set_option linter.unusedVariables false

section
namespace Go.Proofs.Ytecmjhohniipoaa.Lx
open Go.RowKit
open Pl Fl
attribute [local go_sem] run_store_complexL
def isQ (c : UInt8) (x : UInt8) : Bool := x != c && x != 10
theorem one_quote (s : ByteArray) (h0 : 0 < s.size) (hl : isL s[0] = false) (hd : isD s[0] = false) (hq : s[0] = 34 ∨ s[0] = 39) (k : Nat) (hk1 : 1 ≤ k) (hk : runN (isQ s[0]) (s.data.toList.drop 1) = k - 1) :
 ((s.data.toList[k]? = none ∨ s.data.toList[k]? = some 10) → oneN s.data.toList = .error 42) ∧
 (¬ (s.data.toList[k]? = none ∨ s.data.toList[k]? = some 10) → oneN s.data.toList = .ok (⟨4, s.extract 1 k, 0⟩, k + 1)) := by
 have hone : oneN s.data.toList = if s.data.toList[k]? = none ∨ s.data.toList[k]? = some 10 then .error 42 else .ok (⟨4, bt ((s.data.toList.take k).drop 1), 0⟩, k + 1) := by
  unfold oneN
  rw [head_at s h0]
  simp only [Option.getD_some, hl, hd, hq, if_true, Bool.false_eq_true, if_false]
  have e : runN (fun x => x != s[0] && x != 10) s.data.toList.tail = k - 1 := by rw [← hk, List.drop_one]; rfl
  rw [e, show 1 + (k - 1) = k from by omega]
 constructor
 ·intro h; rw [hone, if_pos h]
 ·intro h; rw [hone, if_neg h]
  have : s.extract 1 k = bt ((s.data.toList.take k).drop 1) := by
   apply bytes_ext
   rw [ByteArray.data_extract, Array.toList_extract, List.extract_eq_take_drop]
   simp [bt, List.drop_take]
  rw [this]
theorem ne_of_eq {a b : Int} {c : Bool} (h : (a == b) = c) : (a != b) = !c := by simp [bne, h]
set_option maxRecDepth 100000 in set_option maxHeartbeats 6400000 in
theorem One_quote (s : ByteArray) (h0 : 0 < s.size) (hs : s.size ≤ 9223372036854775800) (hl0 : isL s[0] = false) (hd0 : isD s[0] = false) (hq : s[0] = 34 ∨ s[0] = 39) (w : World) :
 Calls Try.prog 24 #[.string s] w fun e w' => oneEnd (oneN s.data.toList) e ∧ Below w.heap.size w w' := by
 have i0 : (0 : Int) < (s.size : Int) := by omega
 have RL := qh (fun c w => rletter_any c w)
 have RD := qh (fun c w => rdigit_any c w)
 have HQA := qh (one_quote s h0 hl0 hd0 hq)
 have q34 : s[0] = 34 → ((s[0].toNat : Int) == 34) = true := fun h => by rw [h]; rfl
 have q34' : s[0] = 39 → ((s[0].toNat : Int) == 34) = false := fun h => by rw [h]; rfl
 have q39 : s[0] = 39 → ((s[0].toNat : Int) == 39) = true := fun h => by rw [h]; rfl
 go_enter Try.func24, Try.ntmps24
 go_wp2_with fail
 ((with_reducible refine (RL.out _ _).mono ?_); rintro e w1 ⟨rfl, rfl⟩)
 go_wp2_with fail
 ((with_reducible refine (RD.out _ _).mono ?_); rintro e w1 ⟨rfl, rfl⟩)
 rcases hq with hq | hq
 case' inl =>
  have t1 := q34 hq
  clear q34 q34' q39 hq
  go_wp2_with fail
 case' inr =>
  have t1 := q34' hq
  have t2 := q39 hq
  clear q34 q34' q39 hq
  go_wp2_with fail
 all_goals
  go_loop [5] (fun i => ∃ k : Nat, 1 ≤ k ∧ k ≤ s.size ∧ i = .int .i64 k ∧ Hid (runN (isQ s[0]) (s.data.toList.drop 1) = (k - 1) + runN (isQ s[0]) (s.data.toList.drop k))) (fun i => s.size - (intOf i).toNat)
  case atStart => exact ⟨1, Nat.le_refl _, by omega, rfl, qh (by simp)⟩
  case round =>
   obtain ⟨k, hk1, hk, rfl, HB⟩ := hrel
   have x0 : (0 : Int) ≤ (k : Int) := by omega
   have x00 : (1 : Int) ≤ (k : Int) := by omega
   have x2 : (k : Int) ≤ (s.size : Int) := by omega
   rcases Nat.lt_or_ge k s.size with hlt | hge
   case' inl =>
    have HD := qh (drop_cons s k hlt)
    have HA : Hid (s.data.toList[k]? = some s[k]) := qh (by have := congrArg List.head? HD.out; rw [List.head?_drop] at this; rw [this]; rfl)
    have x1 : (k : Int) < (s.size : Int) := by omega
    have z1 : ((k : Int) == (s.size : Int)) = false := by simp only [beq_eq_false_iff_ne, ne_eq]; omega
    by_cases hc : s[k] = s[0]
    case' pos =>
     have HK := qh (show runN (isQ s[0]) (s.data.toList.drop 1) = k - 1 by rw [HB.out, HD.out, runN_no (by unfold isQ; rw [hc]; simp)]; rfl)
     have y1 : ((s[k].toNat : Int) == (s[0].toNat : Int)) = true := by rw [hc]; simp
     have y2 : ((s[k].toNat : Int) == 10) = false := by
      rw [hc]
      generalize s[0] = c at *
      revert t1
      simp only [beq_eq_false_iff_ne, ne_eq]
      intro t1 e
      rw [e] at t1
      first
       | cases t1
       | (rw [e] at t2; cases t2)
     have HE := qh ((HQA.out k hk1 HK.out).2 (by rw [HA.out]; simp; intro e; rw [e] at y2; cases y2))
     have y1n : ((s[k].toNat : Int) != (s[0].toNat : Int)) = false := ne_of_eq y1
     have y2n : ((s[k].toNat : Int) != 10) = true := ne_of_eq y2
     clear HB HD HA HQA HK hc
     go_wp2
    case' neg =>
     have y1 : ((s[k].toNat : Int) == (s[0].toNat : Int)) = false := by
      simp only [beq_eq_false_iff_ne, ne_eq]; exact fun e => hc (UInt8.toNat_inj.1 (by omega))
     by_cases h10 : s[k] = 10
     case' pos =>
      have HK := qh (show runN (isQ s[0]) (s.data.toList.drop 1) = k - 1 by rw [HB.out, HD.out, runN_no (by unfold isQ; rw [h10]; simp)]; rfl)
      have y2 : ((s[k].toNat : Int) == 10) = true := by rw [h10]; rfl
      have HE := qh ((HQA.out k hk1 HK.out).1 (by rw [HA.out, h10]; exact .inr rfl))
      have y1n : ((s[k].toNat : Int) != (s[0].toNat : Int)) = true := ne_of_eq y1
      have y2n : ((s[k].toNat : Int) != 10) = false := ne_of_eq y2
      clear HB HD HA HQA HK hc h10 y1
      go_wp2
     case' neg =>
      have y2 : ((s[k].toNat : Int) == 10) = false := by
       simp only [beq_eq_false_iff_ne, ne_eq]; exact fun e => h10 (UInt8.toNat_inj.1 (by rw [show (10 : UInt8).toNat = 10 from rfl]; omega))
      have HN := qh (show runN (isQ s[0]) (s.data.toList.drop 1) = (k + 1 - 1) + runN (isQ s[0]) (s.data.toList.drop (k + 1)) by
       rw [HB.out, HD.out, runN_yes (by unfold isQ; simp [hc, h10])]; omega)
      have y1n : ((s[k].toNat : Int) != (s[0].toNat : Int)) = true := ne_of_eq y1
      have y2n : ((s[k].toNat : Int) != 10) = true := ne_of_eq y2
      clear HB HD HA HQA hc h10 z1 x00
      go_wp2
      go_round
      case rel => exact ⟨k + 1, by omega, by omega, by go_num, HN⟩
      case measure => simp [intOf]; omega
   case' inr =>
    have hke : k = s.size := by omega
    have z1 : ((k : Int) == (s.size : Int)) = true := by simp only [beq_iff_eq]; omega
    have HK := qh (show runN (isQ s[0]) (s.data.toList.drop 1) = k - 1 by rw [HB.out, List.drop_of_length_le (by simp; omega)]; rfl)
    have HE := qh ((HQA.out k hk1 HK.out).1 (by rw [List.getElem?_eq_none (by simp; omega)]; exact .inl rfl))
    clear HB HQA HK hke
    go_wp2
   all_goals
    (try simp only [Exit.inBlock, Exit.then])
    refine bodyPost_ret (tok_ret3 rfl _ _ w.heap.size _ _ _ _ _ rfl (Blk.new _ _ _)) rfl ?_
    exact ⟨by rw [HE.out]; first | (simp [oneEnd, noTk, Tk.val, Tk.vals, C, fl_0]; done) | (simp [oneEnd, Tk.val, Tk.vals, C, fl_0]; done), (Below.refl _ _).alloc (Nat.le_refl _) _⟩
theorem one_symbol (s : ByteArray) (h0 : 0 < s.size) (hl : isL s[0] = false) (hd : isD s[0] = false) (hq : ¬ (s[0] = 34 ∨ s[0] = 39)) :
 (symN s.data.toList = 0 → oneN s.data.toList = .error 40) ∧ (∀ n, symN s.data.toList = n → n ≠ 0 → oneN s.data.toList = .ok (plainT (s.extract 0 n), n)) := by
 have hone : oneN s.data.toList = if symN s.data.toList = 0 then .error 40 else .ok (plainT (bt (s.data.toList.take (symN s.data.toList))), symN s.data.toList) := by
  unfold oneN
  rw [head_at s h0]
  simp only [Option.getD_some, hl, hd, hq, Bool.false_eq_true, if_false]
 constructor
 ·intro h; rw [hone, if_pos h]
 ·rintro n rfl hn; rw [hone, if_neg hn, ext_take]
theorem symN_le (s : List UInt8) (h : s ≠ []) : symN s ≤ s.length := by
 unfold symN
 split
 ·rename_i h2
  obtain ⟨x, hx, e⟩ := List.any_eq_true.1 h2
  have := twos_size x hx
  have e := eq_of_beq e
  rw [e] at this
  simp at this
  omega
 ·split
  ·rcases s with _ | ⟨a, r⟩
   ·exact absurd rfl h
   ·simp
  ·omega
set_option maxRecDepth 100000 in set_option maxHeartbeats 6400000 in
theorem One_symbol (s : ByteArray) (h0 : 0 < s.size) (hs : s.size ≤ 9223372036854775800) (hl0 : isL s[0] = false) (hd0 : isD s[0] = false) (hq : ¬ (s[0] = 34 ∨ s[0] = 39)) (w : World) :
 Calls Try.prog 24 #[.string s] w fun e w' => oneEnd (oneN s.data.toList) e ∧ Below w.heap.size w w' := by
 have i0 : (0 : Int) < (s.size : Int) := by omega
 have RL := qh (fun c w => rletter_any c w)
 have RD := qh (fun c w => rdigit_any c w)
 have SY := qh (fun w => symbol_any s h0 hs w)
 obtain ⟨hs0, hs1⟩ := one_symbol s h0 hl0 hd0 hq
 have HS0 := qh hs0
 have HS1 := qh hs1
 have hsl := symN_le s.data.toList (by intro e; have h1 := congrArg List.length e; rw [Array.length_toList, ByteArray.size_data] at h1; simp only [List.length_nil] at h1; omega)
 have hsl' : symN s.data.toList ≤ s.size := by simpa using hsl
 clear hs0 hs1 hsl
 have q34 : ((s[0].toNat : Int) == 34) = false := by
  simp only [beq_eq_false_iff_ne, ne_eq]; exact fun e => hq (.inl (UInt8.toNat_inj.1 (by rw [show (34 : UInt8).toNat = 34 from rfl]; omega)))
 have q39 : ((s[0].toNat : Int) == 39) = false := by
  simp only [beq_eq_false_iff_ne, ne_eq]; exact fun e => hq (.inr (UInt8.toNat_inj.1 (by rw [show (39 : UInt8).toNat = 39 from rfl]; omega)))
 clear hq
 go_enter Try.func24, Try.ntmps24
 go_wp2_with fail
 ((with_reducible refine (RL.out _ _).mono ?_); rintro e w1 ⟨rfl, rfl⟩)
 go_wp2_with fail
 ((with_reducible refine (RD.out _ _).mono ?_); rintro e w1 ⟨rfl, rfl⟩)
 go_wp2_with fail
 ((with_reducible refine (SY.out _).mono ?_); rintro e w1 ⟨rfl, hb⟩)
 have hz := hb.size
 have hB := (Blk.new w 68 #[.int .u8 0, .complex .f64 0 0, .complex .f64 0 0, .string ⟨#[]⟩, .int .i64 0])
 have hlt1 : w.heap.size < (w.alloc (.cells #[.int .u8 0, .complex .f64 0 0, .complex .f64 0 0, .string ⟨#[]⟩, .int .i64 0] 68)).heap.size := by rw [World.size_alloc]; exact Nat.lt_succ_self _
 have hB := hB.below hb hlt1
 have hBl : Hid (Below w.heap.size w w1) := qh (((Below.refl w.heap.size w).alloc (Nat.le_refl _) _).trans (hb.mono (Nat.le_of_lt hlt1)))
 have hlt0 : w.heap.size < w1.heap.size := Nat.lt_of_lt_of_le hlt1 hz
 have HBK := qh hB
 clear hb hz hlt1
 generalize symN s.data.toList = n at *
 by_cases hn : n = 0
 ·subst hn
  obtain ⟨m0, m1, m2, m3, m4, f0, f1, f2, f3, f4⟩ := hB.tok
  have HE := qh (HS0.out rfl)
  clear HS0 HS1 hB
  go_wp2
  (try simp only [Exit.inBlock, Exit.then])
  refine bodyPost_ret (tok_ret3 rfl _ _ w.heap.size _ _ _ _ _ rfl (tok_stored HBK.out _ _ _ _ _)) rfl ?_
  exact ⟨by rw [HE.out]; simp [oneEnd, noTk, Tk.val, Tk.vals, C, fl_0], below_stored hBl.out (Nat.le_refl _) _ _ _ _ _⟩
 ·have HE := qh (HS1.out n rfl hn)
  have n0 : ((n : Int) == 0) = false := by simp only [beq_eq_false_iff_ne, ne_eq]; omega
  have x0 : (0 : Int) ≤ (n : Int) := by omega
  have x2 : (n : Int) ≤ (s.size : Int) := by omega
  clear HS0 HS1 hn hB
  go_wp2_with fail
  ((with_reducible refine (plain_any _ _).mono ?_); rintro e w2 ⟨rfl, hb⟩)
  have hB := HBK.out.below hb hlt0
  have hBl2 : Hid (Below w.heap.size w w2) := qh (hBl.out.trans (hb.mono (Nat.le_of_lt hlt0)))
  obtain ⟨m0, m1, m2, m3, m4, f0, f1, f2, f3, f4⟩ := hB.tok
  have HB2 := qh hB
  generalize plainT _ = tk at *
  obtain ⟨tk, tt, tn⟩ := tk
  clear hB hb HBK hBl
  simp only [Tk.val, Tk.vals, C, fl_0]
  go_wp2
  (try simp only [Exit.inBlock, Exit.then])
  refine bodyPost_ret (tok_ret3 rfl _ _ w.heap.size _ _ _ _ _ rfl (tok_stored HB2.out _ _ _ _ _)) rfl ?_
  exact ⟨by rw [HE.out]; simp [oneEnd, Tk.val, Tk.vals, C, fl_0], below_stored hBl2.out (Nat.le_refl _) _ _ _ _ _⟩
theorem One_any (s : ByteArray) (h0 : 0 < s.size) (hs : s.size ≤ 9223372036854775800) (w : World) :
 Calls Try.prog 24 #[.string s] w fun e w' => oneEnd (oneN s.data.toList) e ∧ Below w.heap.size w w' := by
 cases hl : isL s[0]
 ·cases hd : isD s[0]
  ·by_cases hq : s[0] = 34 ∨ s[0] = 39
   ·exact One_quote s h0 hs hl hd hq w
   ·exact One_symbol s h0 hs hl hd hq w
  ·exact One_digit s h0 hs hd w
 ·exact One_letter s h0 hs hl w
end Go.Proofs.Ytecmjhohniipoaa.Lx
end

section
namespace Go.Proofs.Ytecmjhohniipoaa.Lx
open Go.RowKit
open Pl Fl
def isB (c : UInt8) : Bool := c == 9 || c == 10 || c == 13 || c == 32
inductive Item where
 | blank (n : Nat)
 | tok (t : Tk) (n : Nat)
 | bad (e : Nat)
def item (s : List UInt8) : Item :=
 if isB (s.head?.getD 0) then .blank 1
 else if s.take 2 = [40, 42] then (if cmt 0 0 s = 0 then .bad 43 else .blank (cmt 0 0 s))
 else match oneN s with
  | .error e => .bad e
  | .ok (t, n) => .tok t n
abbrev Tok := Tk × Nat × Nat
def scanF : Nat → Nat → List UInt8 → Except (Nat × Nat) (List Tok)
 | 0, i, _ => .error (i, 0)
 | f + 1, i, s => if s = [] then .ok [(noTk, i, i)] else match item s with
   | .bad e => .error (i, e)
   | .blank n => scanF f (i + n) (s.drop n)
   | .tok t n => (scanF f (i + n) (s.drop n)).map ((t, i, i + n) :: ·)
def scanL (s : List UInt8) : Except (Nat × Nat) (List Tok) := if 16384 < s.length then .error (0, 5) else scanF (s.length + 1) 0 s
def at_ (s : List UInt8) (i : Nat) : Nat × Nat := behN (1, 1) (s.take i)
def Tok.vals (s : List UInt8) (t : Tok) : List Value := t.1.vals (at_ s t.2.1) (at_ s t.2.2)
def flat (s : List UInt8) (l : List Tok) : List Value := l.flatMap (Tok.vals s)
theorem tok_vals_len (s : List UInt8) (t : Tok) : (Tok.vals s t).length = 5 := rfl
theorem flat_len (s : List UInt8) (l : List Tok) : (flat s l).length = l.length * 5 := by
 induction l with
 | nil => rfl
 | cons t l ih => simp only [flat, List.flatMap_cons, List.length_append, tok_vals_len, List.length_cons] at ih ⊢; omega
theorem flat_snoc (s : List UInt8) (l : List Tok) (t : Tok) : flat s (l ++ [t]) = flat s l ++ Tok.vals s t := by simp [flat]
theorem behN_app (p : Nat × Nat) (a b : List UInt8) : behN p (a ++ b) = behN (behN p a) b := by
 induction a generalizing p with
 | nil =>
   cases hp : isN p
   ·rw [behN_out hp, behN_out (l := []) hp, behN_out (p := (0, 0)) rfl]
   ·simp [behN, hp]
 | cons c a ih =>
   cases hp : isN p
   ·rw [behN_out hp, behN_out hp, behN_out (p := (0, 0)) rfl]
   ·rw [List.cons_append, behN_cons hp, behN_cons hp, ih]
theorem at_add (s : List UInt8) (i n : Nat) : behN (at_ s i) ((s.drop i).take n) = at_ s (i + n) := by
 unfold at_; rw [← behN_app, ← List.take_add]
theorem behN_bd (l : List UInt8) : ∀ (p : Nat × Nat) (m : Nat), isN p = true → p.1 + l.length ≤ m → p.2 + l.length ≤ m → m ≤ 1073741824 → isN (behN p l) = true ∧ (behN p l).1 ≤ m ∧ (behN p l).2 ≤ m := by
 induction l with
 | nil => intro p m hp h1 h2 hm; simp [behN, hp] at h1 h2 ⊢; omega
 | cons c l ih =>
   intro p m hp h1 h2 hm
   simp only [List.length_cons] at h1 h2
   obtain ⟨⟨q1, q2⟩, q3, q4⟩ := isN_bd hp
   rw [behN_cons hp]
   have hs : isN (stepN p c) = true ∧ (stepN p c).1 ≤ p.1 + 1 ∧ (stepN p c).2 ≤ p.2 + 1 := by
    unfold stepN
    split
    ·exact ⟨by simp [isN, inN]; omega, by omega, by simp⟩
    ·exact ⟨by simp [isN, inN]; omega, by simp, by simp⟩
   exact ih _ m hs.1 (by omega) (by omega) hm
theorem at_is (s : List UInt8) (hs : s.length ≤ 16384) (i : Nat) : isN (at_ s i) = true ∧ (at_ s i).1 ≤ 16385 ∧ (at_ s i).2 ≤ 16385 := by
 have hl : (s.take i).length ≤ 16384 := by rw [List.length_take]; omega
 exact behN_bd (s.take i) (1, 1) 16385 rfl (by simp only; omega) (by simp only; omega) (by omega)
theorem cmt_bd : ∀ (m : Nat) (d : Int) (i : Nat) (s : List UInt8), s.length ≤ m → cmt d i s = 0 ∨ (i + 2 ≤ cmt d i s ∧ cmt d i s ≤ i + s.length) := by
 intro m
 induction m with
 | zero => intro d i s h; have : s = [] := List.length_eq_zero_iff.1 (by omega); subst this; exact .inl rfl
 | succ m ih =>
   intro d i s h
   rcases s with _ | ⟨a, _ | ⟨b, r⟩⟩
   ·exact .inl rfl
   ·exact .inl rfl
   ·simp only [List.length_cons] at h
    have e1 := ih (d + 1) (i + 2) r (by omega)
    have e2 := ih (d - 1) (i + 2) r (by omega)
    have e3 := ih d (i + 1) (b :: r) (by simp only [List.length_cons]; omega)
    unfold cmt
    simp only [List.length_cons] at e3 ⊢
    split
    ·omega
    ·split
     ·split <;> omega
     ·omega
theorem runN_pos {p : UInt8 → Bool} {s : List UInt8} (h : p (s.head?.getD 0) = true) (hs : s ≠ []) : 1 ≤ runN p s := by
 rcases s with _ | ⟨a, r⟩
 ·exact absurd rfl hs
 ·rw [runN_yes (by simpa using h)]; omega
theorem oneN_bd (s : List UInt8) (hs : s ≠ []) (t : Tk) (n : Nat) (h : oneN s = .ok (t, n)) : 1 ≤ n ∧ n ≤ s.length := by
 have hl : 1 ≤ s.length := by
  rcases s with _ | ⟨a, r⟩
  ·exact absurd rfl hs
  ·simp
 unfold oneN at h
 dsimp only at h
 split at h
 ·rename_i hc
  have h1 := runN_pos (p := isP) (s := s) (by unfold isP; rw [hc]; rfl) hs
  have h2 := runN_le isP s
  split at h
  ·cases h
  ·injection h with h; injection h with h3 h4; omega
 ·split at h
  ·rename_i hc
   have h1 := runN_pos (p := isX) (s := s) (isX_of_isD hc) hs
   have h2 := runN_le isX s
   split at h
   ·cases h
   ·injection h with h; injection h with h3 h4
    split at h4
    ·rename_i h72
     obtain ⟨h5, _⟩ := List.getElem?_eq_some_iff.1 h72
     omega
    ·omega
  ·split at h
   ·split at h
    ·cases h
    ·rename_i hn
     injection h with h; injection h with h3 h4
     have : s[1 + runN (fun x => x != s.head?.getD 0 && x != 10) s.tail]? ≠ none := fun e => hn (.inl e)
     rw [ne_eq, List.getElem?_eq_none_iff] at this
     omega
   ·have h1 := symN_le s hs
    split at h
    ·cases h
    ·injection h with h; injection h with h3 h4
     omega
theorem item_bd (s : List UInt8) (hs : s ≠ []) : (∀ n, item s = .blank n → 1 ≤ n ∧ n ≤ s.length) ∧ (∀ t n, item s = .tok t n → 1 ≤ n ∧ n ≤ s.length) := by
 have hl : 1 ≤ s.length := by
  rcases s with _ | ⟨a, r⟩
  ·exact absurd rfl hs
  ·simp
 have hb := cmt_bd s.length 0 0 s (Nat.le_refl _)
 constructor
 ·intro n h
  unfold item at h
  split at h
  ·injection h with h; omega
  ·split at h
   ·split at h
    ·cases h
    ·injection h with h; omega
   ·split at h
    ·cases h
    ·cases h
 ·intro t n h
  unfold item at h
  split at h
  ·cases h
  ·split at h
   ·split at h
    ·cases h
    ·cases h
   ·split at h
    ·cases h
    ·rename_i t' n' e
     injection h with h1 h2
     subst h1 h2
     exact oneN_bd s hs _ _ e
theorem map_map_e {α β γ ε : Type} (f : α → β) (g : β → γ) (x : Except ε α) : (x.map f).map g = x.map (g ∘ f) := by cases x <;> rfl
theorem scanF_fuel : ∀ (m : Nat) (s : List UInt8) (f g i : Nat), s.length ≤ m → s.length < f → s.length < g → scanF f i s = scanF g i s := by
 intro m
 induction m with
 | zero =>
   intro s f g i hm hf hg
   have : s = [] := List.length_eq_zero_iff.1 (by omega)
   subst this
   rcases f with _ | f
   ·simp at hf
   rcases g with _ | g
   ·simp at hg
   rfl
 | succ m ih =>
   intro s f g i hm hf hg
   rcases f with _ | f
   ·omega
   rcases g with _ | g
   ·omega
   unfold scanF
   by_cases hs : s = []
   ·rw [if_pos hs, if_pos hs]
   ·rw [if_neg hs, if_neg hs]
    obtain ⟨h1, h2⟩ := item_bd s hs
    cases h : item s with
    | bad k => rfl
    | blank n =>
      have := h1 n h
      exact ih _ _ _ _ (by rw [List.length_drop]; omega) (by rw [List.length_drop]; omega) (by rw [List.length_drop]; omega)
    | tok t n =>
      have := h2 t n h
      dsimp only
      rw [ih (s.drop n) f g _ (by rw [List.length_drop]; omega) (by rw [List.length_drop]; omega) (by rw [List.length_drop]; omega)]
def scanAt (src : List UInt8) (i : Nat) : Except (Nat × Nat) (List Tok) := scanF ((src.drop i).length + 1) i (src.drop i)
section
variable {src : List UInt8} {i : Nat}
theorem scanAt_end (h : src.length ≤ i) : scanAt src i = .ok [(noTk, i, i)] := by
 unfold scanAt; rw [List.drop_of_length_le h]; rfl
theorem drop_ne (h : i < src.length) : src.drop i ≠ [] := by
 intro e; have := congrArg List.length e; rw [List.length_drop] at this; simp at this; omega
theorem scanAt_step (h : i < src.length) : scanAt src i = match item (src.drop i) with
 | .bad e => .error (i, e)
 | .blank n => scanAt src (i + n)
 | .tok t n => (scanAt src (i + n)).map ((t, i, i + n) :: ·) := by
 have hs := drop_ne h
 obtain ⟨h1, h2⟩ := item_bd _ hs
 unfold scanAt
 rw [scanF, if_neg hs]
 cases hc : item (src.drop i) with
 | bad k => rfl
 | blank n =>
   have := h1 n hc
   simp only [List.drop_drop]
   refine scanF_fuel _ _ _ _ _ (Nat.le_refl _) ?_ (by omega)
   rw [List.length_drop] at this ⊢
   rw [List.length_drop]; omega
 | tok t n =>
   have := h2 t n hc
   simp only [List.drop_drop]
   rw [scanF_fuel _ _ (src.drop i).length ((src.drop (i + n)).length + 1) _ (Nat.le_refl _) ?_ (by omega)]
   rw [List.length_drop] at this ⊢
   rw [List.length_drop]; omega
theorem scanAt_bad (h : i < src.length) {k : Nat} (hc : item (src.drop i) = .bad k) : scanAt src i = .error (i, k) := by rw [scanAt_step h, hc]
theorem scanAt_blank (h : i < src.length) {n : Nat} (hc : item (src.drop i) = .blank n) : scanAt src i = scanAt src (i + n) := by rw [scanAt_step h, hc]
theorem scanAt_tok (h : i < src.length) {t : Tk} {n : Nat} (hc : item (src.drop i) = .tok t n) : scanAt src i = (scanAt src (i + n)).map ((t, i, i + n) :: ·) := by rw [scanAt_step h, hc]
theorem scanL_eq : scanL src = if 16384 < src.length then .error (0, 5) else scanAt src 0 := rfl
theorem item_in (h : i < src.length) : (∀ n, item (src.drop i) = .blank n → 1 ≤ n ∧ i + n ≤ src.length) ∧ (∀ t n, item (src.drop i) = .tok t n → 1 ≤ n ∧ i + n ≤ src.length) := by
 obtain ⟨h1, h2⟩ := item_bd _ (drop_ne h)
 rw [List.length_drop] at h1 h2
 exact ⟨fun n hn => by have := h1 n hn; omega, fun t n hn => by have := h2 t n hn; omega⟩
end
theorem oneN_err (s : List UInt8) (k : Nat) (h : oneN s = .error k) : k = 5 ∨ k = 40 ∨ k = 41 ∨ k = 42 := by
 unfold oneN at h
 dsimp only at h
 split at h
 ·split at h
  ·injection h with h; omega
  ·cases h
 ·split at h
  ·split at h
   ·injection h with h; omega
   ·cases h
  ·split at h
   ·split at h
    ·injection h with h; omega
    ·cases h
   ·split at h
    ·injection h with h; omega
    ·cases h
end Go.Proofs.Ytecmjhohniipoaa.Lx
end

section
namespace Go.Proofs.Ytecmjhohniipoaa.Lx
open Go.RowKit
open Pl Fl
attribute [local go_sem] run_store_complexL
theorem ofN_nat {p : Nat × Nat} (h : isN p = true) : ofN (p.1 : Nat) (p.2 : Nat) = p := by
 have := isN_bd h
 rw [ofN_in (isR_mk (by omega) (by omega) (by omega) (by omega))]
 rfl
theorem beh_at {p q : Nat × Nat} (x : ByteArray) (hp : isN p = true) (hx : behN p x.data.toList = q) (hs : x.size ≤ 9223372036854775806) (w : World) :
 Calls Try.prog 25 #[.agg #[.int .i64 p.1, .int .i64 p.2], .string x] w fun e w' => e = .returned (.agg #[.int .i64 q.1, .int .i64 q.2]) ∧ Below w.heap.size w w' := by
 refine (rBehind_any (p.1 : Nat) (p.2 : Nat) x w hs).mono fun e w' ⟨h1, h2⟩ => ⟨?_, h2⟩
 rw [h1, ofN_nat hp, hx]
 rfl
theorem pos_at {q : Nat × Nat} (hq : isN q = true) (w : World) :
 Calls Try.prog 22 #[.agg #[.int .i64 q.1, .int .i64 q.2]] w fun e w' => e = .returned (.complex .f64 (fl q.1) (fl q.2)) ∧ Below w.heap.size w w' := by
 refine (rPos_any (q.1 : Nat) (q.2 : Nat) w).mono fun e w' ⟨h1, h2⟩ => ⟨?_, h2⟩
 rw [h1, ofN_nat hq]
 rfl
def scanEnd (W : World) (src : List UInt8) (r : Except (Nat × Nat) (List Tok)) (e : Ending) (w' : World) : Prop := match r with
 | .error (i, k) => e = .returned (.tuple #[.slice none 0 0, .complex .f64 (fl (at_ src i).1) (fl (at_ src i).2), .int .i64 k]) ∧ Below W.heap.size W w'
 | .ok l => ∃ g cap, e = .returned (.tuple #[.slice (some ⟨g, 0, none⟩) l.length cap, .complex .f64 0 0, .int .i64 0]) ∧ w'.ownsRow W.heap.size 68 5 (.slice (some ⟨g, 0, none⟩) l.length cap) l.length (flat src l) ∧ Below W.heap.size W w'
def strLen : Value → Nat
 | .string s => s.size
 | _ => 0
theorem own_mono {w : World} {b b' : Nat} {e : TypeId} {size : Nat} {v : Value} {n : Nat} {xs : List Value} (h : w.ownsRow b e size v n xs) (hb : b' ≤ b) : w.ownsRow b' e size v n xs := by
 obtain ⟨h1, h2⟩ := h
 refine ⟨h1, ?_⟩
 rcases h2 with ⟨rfl, rfl⟩ | ⟨g, cap, cur, e1, h3, h4⟩
 ·exact .inl ⟨rfl, rfl⟩
 ·exact .inr ⟨g, cap, cur, e1, by omega, h4⟩
theorem info68 : (Try.prog.info? 68).map (fun i => (i.zero, i.size, i.bytes)) = some (some (.agg #[.int .u8 0, .complex .f64 0 0, .complex .f64 0 0, .string ⟨#[]⟩, .int .i64 0]), 5, 64) := by kernel_rfl
theorem pos_one (w : World) : Calls Try.prog 22 #[.agg #[.int .i64 1, .int .i64 1]] w fun e w' => e = .returned (.complex .f64 (fl 1) (fl 1)) ∧ Below w.heap.size w w' := pos_at (q := (1, 1)) rfl w
section
variable {w wx wy : World} {b pl pc : Nat} {v0 v1 v2 v3 v4 lv : Value} {n base : Nat} {xs : List Value}
theorem own_below {e : TypeId} {size : Nat} (h : wx.ownsRow base e size lv n xs) (hb : Below wx.heap.size wx wy) : wy.ownsRow base e size lv n xs :=
 h.kept (row := none) ⟨hb.os, hb.tape, hb.output, hb.size, fun k hk _ => hb.block k hk⟩ (by cases lv.ownBlock <;> simp)
theorem below_grown {B : Nat} {row : Option Nat} (h : Below B w wx) (hg : wx.grownBy wy row) (hr : ∀ k, row = some k → B ≤ k) (hB : B ≤ wx.heap.size) : Below B w wy :=
 ⟨hg.os.trans h.os, hg.tape.trans h.tape, hg.output.trans h.output, Nat.le_trans h.size hg.size, fun k hk => (hg.block k (by omega) (fun e => by have := hr k e.symm; omega)).trans (h.block k hk)⟩
structure PS (w wx : World) (pl pc : Nat) (lv : Value) (n : Nat) (xs : List Value) : Prop where
 pos : Blk wx w.heap.size 64 #[.int .i64 pl, .int .i64 pc]
 own : wx.ownsRow (w.heap.size + 1) 68 5 lv n xs
 bel : Below w.heap.size w wx
structure RS (w wx : World) (b : Nat) (pl pc : Nat) (v0 v1 v2 v3 v4 lv : Value) (n : Nat) (xs : List Value) : Prop extends PS w wx pl pc lv n xs where
 tok : Blk wx b 68 #[v0, v1, v2, v3, v4]
 far : w.heap.size < b
 sep : lv.ownBlock ≠ some b
theorem PS.below (h : PS w wx pl pc lv n xs) (hb : Below wx.heap.size wx wy) : PS w wy pl pc lv n xs :=
 ⟨h.pos.below hb h.pos.lt, own_below h.own hb, h.bel.trans (hb.mono h.bel.size)⟩
theorem PS.drew (h : PS w wx pl pc lv n xs) : PS w wx.drew pl pc lv n xs := h.below (below_drewN (Below.refl _ _) 1)
theorem PS.lt (h : PS w wx pl pc lv n xs) : w.heap.size < wx.heap.size := h.pos.lt
theorem RS.below (h : RS w wx b pl pc v0 v1 v2 v3 v4 lv n xs) (hb : Below wx.heap.size wx wy) : RS w wy b pl pc v0 v1 v2 v3 v4 lv n xs :=
 ⟨h.toPS.below hb, h.tok.below hb h.tok.lt, h.far, h.sep⟩
theorem RS.drew (h : RS w wx b pl pc v0 v1 v2 v3 v4 lv n xs) : RS w wx.drew b pl pc v0 v1 v2 v3 v4 lv n xs := h.below (below_drewN (Below.refl _ _) 1)
theorem PS.tok (h : PS w wx pl pc lv n xs) (v0 v1 v2 v3 v4 : Value) : RS w (wx.alloc (.cells #[v0, v1, v2, v3, v4] 68)) wx.heap.size pl pc v0 v1 v2 v3 v4 lv n xs :=
 ⟨h.below ((Below.refl _ _).alloc (Nat.le_refl _) _), Blk.new _ _ _, h.lt, fun e => by have := (h.own.lt _ e).2; omega⟩
theorem grown_set (wx : World) (b i : Nat) (u : Value) : wx.grownBy (wx.setCell ⟨b, i, none⟩ u) (some b) :=
 ⟨rfl, rfl, rfl, by rw [World.size_setCell]; exact Nat.le_refl _, fun k _ hk => Below.heap_setCell wx _ u k (fun e => hk (by rw [e]))⟩
theorem RS.set_ (h : RS w wx b pl pc v0 v1 v2 v3 v4 lv n xs) (i : Nat) (u : Value) :
 PS w (wx.setCell ⟨b, i, none⟩ u) pl pc lv n xs :=
 ⟨h.pos.far (Nat.ne_of_lt h.far) u, h.own.kept (grown_set wx b i u) (.inr h.sep), h.bel.setCell (Nat.le_of_lt h.far) u⟩
theorem RS.set1 (h : RS w wx b pl pc v0 v1 v2 v3 v4 lv n xs) (u : Value) : RS w (wx.setCell ⟨b, 1, none⟩ u) b pl pc v0 u v2 v3 v4 lv n xs :=
 ⟨h.set_ 1 u, by have := h.tok.set_ 1 u; simpa using this, h.far, h.sep⟩
theorem RS.set2 (h : RS w wx b pl pc v0 v1 v2 v3 v4 lv n xs) (u : Value) : RS w (wx.setCell ⟨b, 2, none⟩ u) b pl pc v0 v1 u v3 v4 lv n xs :=
 ⟨h.set_ 2 u, by have := h.tok.set_ 2 u; simpa using this, h.far, h.sep⟩
theorem PS.setPos (h : PS w wx pl pc lv n xs) (ql qc : Nat) : PS w ((wx.setCell ⟨w.heap.size, 0, none⟩ (.int .i64 ql)).setCell ⟨w.heap.size, 1, none⟩ (.int .i64 qc)) ql qc lv n xs := by
 have hs : lv.ownBlock ≠ some w.heap.size := fun e => by have := (h.own.lt _ e).1; omega
 refine ⟨?_, ?_, (h.bel.setCell (Nat.le_refl _) _).setCell (Nat.le_refl _) _⟩
 ·have := (h.pos.set_ 0 (.int .i64 ql)).set_ 1 (.int .i64 qc)
  simpa using this
 ·exact (h.own.kept (grown_set _ _ _ _) (.inr hs)).kept (grown_set _ _ _ _) (.inr hs)
theorem app_facts {k : Nat} {a1 b1 a2 b2 : Nat} {t : ByteArray} {m : Int} (h : PS w wx pl pc lv n xs) (hn : n ≤ 1000000) (cs : Array Value) (hcs : cs = #[.int .u8 k, .complex .f64 a1 b1, .complex .f64 a2 b2, .string t, .int .i64 m]) :
 Hid ((∀ i v, cs.toList[i]? = some v → (wx.alloc (.cells cs 68)).cell? ((⟨wx.heap.size, 0, none⟩ : Addr).add i) = some v) ∧ (∀ v ∈ cs.toList, v.oneCell' = true) ∧ n + 1 ≤ maxLen ∧ w.heap.size + 1 ≤ (wx.alloc (.cells cs 68)).heap.size ∧ (wx.alloc (.cells cs 68)).ownsRow (w.heap.size + 1) 68 5 lv n xs) := by
 refine qh ⟨World.news_of_block (heap_alloc_new wx _), fun v hv => ?_, by unfold maxLen; omega, ?_, h.own.alloc _⟩
 ·subst hcs
  simp only [List.mem_cons, List.not_mem_nil, or_false] at hv
  rcases hv with rfl | rfl | rfl | rfl | rfl <;> rfl
 ·have := h.lt; rw [World.size_alloc]; omega
theorem PS.appended {cs : Array Value} {w1 : World} {v' : Value} {m : Nat} {ys : List Value} (h : PS w wx pl pc lv n xs) (hown : w1.ownsRow (w.heap.size + 1) 68 5 v' m ys) (hg : (wx.alloc (.cells cs 68)).grownBy w1 lv.ownBlock) : PS w w1 pl pc v' m ys := by
 have hr : ∀ k, lv.ownBlock = some k → w.heap.size + 1 ≤ k := fun k e => (h.own.lt _ e).1
 refine ⟨(h.pos.alloc _).grown hg (fun e => ?_), hown, below_grown (h.bel.alloc h.bel.size _) hg (fun k e => ?_) ?_⟩
 ·have := hr _ e.symm; omega
 ·have := hr k e; omega
 ·have := h.lt; rw [World.size_alloc]; omega
theorem PS.facts (h : PS w wx pl pc lv n xs) : wx.cell? ⟨w.heap.size, 0, none⟩ = some (.int .i64 pl) ∧ wx.cell? ⟨w.heap.size, 1, none⟩ = some (.int .i64 pc) ∧ wx.frozen? ⟨w.heap.size, 0, none⟩ = false ∧ wx.frozen? ⟨w.heap.size, 1, none⟩ = false :=
 ⟨h.pos.cell 0, h.pos.cell 1, h.pos.frozen 0, h.pos.frozen 1⟩
end
theorem u8_eq (c : UInt8) (k : Nat) (h : k < 256) : ((c.toNat : Int) == (k : Int)) = (c == UInt8.ofNat k) := by
 rw [Bool.eq_iff_iff, beq_iff_eq, beq_iff_eq]
 constructor
 ·intro e; apply UInt8.toNat_inj.1; rw [UInt8.toNat_ofNat']; omega
 ·intro e; rw [e, UInt8.toNat_ofNat']; omega
end Go.Proofs.Ytecmjhohniipoaa.Lx
end

section
namespace Go.Proofs.Ytecmjhohniipoaa
open Go.RowKit
theorem ret_int {k : IntKind} {a b : Int} (h : a = b) : Ending.returned (.int k a) = .returned (.int k b) := by rw [h]
theorem ret_bool {a b : Bool} (h : a = b) : Ending.returned (.bool a) = .returned (.bool b) := by rw [h]
theorem block_of_add (a : Addr) (n : Nat) : (a.add n).block = a.block := by unfold Addr.add; split <;> rfl
def Reads (w : World) (B size : Nat) (A : Option Addr) (n : Nat) (xs : List Value) : Prop :=
 xs.length = n * size ∧ (0 < n → ∃ ad, A = some ad ∧ ad.block < B ∧ ∀ j u, xs[j]? = some u → w.cell? (ad.add j) = some u)
section
variable {w w' : World} {B B' size n : Nat} {A : Option Addr} {xs : List Value}
theorem Reads.none_ : Reads w B size A 0 [] := ⟨by simp, fun h => absurd h (by omega)⟩
theorem Reads.at_ {k : Nat} (h : Reads w B 1 A n xs) (hk : k < n) : ∃ ad u, A = some ad ∧ ad.block < B ∧ xs[k]? = some u ∧ w.cell? (ad.add k) = some u := by
 obtain ⟨ad, e, hb, hc⟩ := h.2 (by omega)
 have hl : k < xs.length := by have := h.1; omega
 exact ⟨ad, xs[k], e, hb, List.getElem?_eq_getElem hl, hc k _ (List.getElem?_eq_getElem hl)⟩
theorem Reads.spot {k : Nat} (h : Reads w B 1 A n xs) (hk : k < n) : ∃ b off u, A = some ⟨b, off, none⟩ ∧ b < B ∧ xs[k]? = some u ∧ w.cell? ⟨b, off + k, none⟩ = some u := by
 obtain ⟨⟨b, off, sp⟩, u, e, hb, hx, hc⟩ := h.at_ hk
 have hs : sp = none := by
  obtain ⟨ad, u0, e0, _, _, hc0⟩ := h.at_ (k := 0) (by omega)
  rw [e] at e0
  injection e0 with e0
  subst e0
  have := World.cell?_spot hc0
  simpa [Addr.add] using this
 subst hs
 refine ⟨b, off, u, e, hb, hx, ?_⟩
 have : (⟨b, off, none⟩ : Addr).add k = ⟨b, off + k, none⟩ := by unfold Addr.add; split <;> simp_all
 rwa [this] at hc
theorem Reads.keep (h : Reads w B size A n xs) (hk : ∀ p : Addr, p.block < B → w'.cell? p = w.cell? p) : Reads w' B size A n xs :=
 ⟨h.1, fun hn => by
   obtain ⟨ad, e, hb, hc⟩ := h.2 hn
   exact ⟨ad, e, hb, fun j u hu => (hk _ (by rw [block_of_add]; exact hb)).trans (hc j u hu)⟩⟩
theorem Reads.more (h : Reads w B size A n xs) (hB : B ≤ B') : Reads w B' size A n xs :=
 ⟨h.1, fun hn => by
   obtain ⟨ad, e, hb, hc⟩ := h.2 hn
   exact ⟨ad, e, by omega, hc⟩⟩
theorem Reads.below (h : Reads w B size A n xs) (hb : Below B w w') : Reads w' B size A n xs := h.keep fun _ hp => hb.cell hp
theorem Reads.drew (h : Reads w B size A n xs) : Reads w.drew B size A n xs := h
theorem Reads.drewN (h : Reads w B size A n xs) (k : Nat) : Reads (w.drewN k) B size A n xs := h
theorem Reads.alloc (h : Reads w B size A n xs) (hB : B ≤ w.heap.size) (o : Obj) : Reads (w.alloc o) B size A n xs := h.keep fun p hp => World.cell?_alloc_lt w o p (by omega)
theorem Reads.setCell (h : Reads w B size A n xs) {p : Addr} (hB : B ≤ p.block) (u : Value) : Reads (w.setCell p u) B size A n xs :=
 h.keep fun q hq => World.cell?_setCell_other w p q u (fun e => by subst e; omega)
theorem Reads.grown (h : Reads w B size A n xs) {row : Option Nat} (hg : w.grownBy w' row) (hB : B ≤ w.heap.size) (hr : ∀ g, row = some g → B ≤ g) : Reads w' B size A n xs :=
 h.keep fun p hp => World.cell?_of_block (hg.block p.block (by omega) (fun e => by have := hr _ e.symm; omega))
theorem Reads.of_own {base : Nat} {e : TypeId} {c : Nat} (h : w.ownsRow base e size (.slice A n c) n xs) : Reads w w.heap.size size A n xs := by
 refine ⟨h.1, fun hn => ?_⟩
 obtain ⟨g, cap, hv, _, hlt⟩ := h.form hn
 have hA : A = some ⟨g, 0, none⟩ := by injection hv
 subst hA
 exact ⟨_, rfl, hlt, h.cells (g := g) rfl⟩
end
theorem own_form {w : World} {base : Nat} {e : TypeId} {size : Nat} {v : Value} {n : Nat} {xs : List Value} (h : w.ownsRow base e size v n xs) : ∃ A c, v = .slice A n c ∧ Reads w w.heap.size size A n xs := by
 have h0 := h
 rcases h.2 with ⟨rfl, rfl⟩ | ⟨g, cap, cur, rfl, _⟩
 ·exact ⟨none, 0, rfl, h0.1, fun h => absurd h (by omega)⟩
 ·exact ⟨_, _, rfl, Reads.of_own h0⟩
end Go.Proofs.Ytecmjhohniipoaa
end

section
namespace Go.Proofs.Ytecmjhohniipoaa.Tr
open Go.RowKit
open Fl
structure Nd where
 kind : Nat
 pos : Nat × Nat
 name : ByteArray
 n : Int
inductive Fo where
 | no : Fo
 | node (d : Nd) (kids rest : Fo) : Fo
def Fo.len : Fo → Nat
 | .no => 0
 | .node _ _ r => r.len + 1
def Fo.count : Fo → Nat
 | .no => 0
 | .node _ k r => 1 + k.count + r.count
def Fo.same : Fo → Fo → Bool
 | .no, .no => true
 | .node d k r, .node d' k' r' => decide (d.kind = d'.kind) && decide (d.name = d'.name) && decide (d.n = d'.n) && k.same k' && r.same r'
 | _, _ => false
def Fo.exact : Fo → Fo → Bool
 | .no, .no => true
 | .node d k r, .node d' k' r' => decide (d.kind = d'.kind) && decide (d.name = d'.name) && decide (d.n = d'.n) && decide (d.pos = d'.pos) && k.exact k' && r.exact r'
 | _, _ => false
def Fo.fits : Fo → Prop
 | .no => True
 | .node d k r => d.kind < 256 ∧ d.pos.1 < 4294967296 ∧ d.pos.2 < 4294967296 ∧ d.name.size ≤ 9223372036854775807 ∧ k.fits ∧ r.fits
theorem Fo.same_len : ∀ f g : Fo, f.same g = true → f.len = g.len
 | .no, .no, _ => rfl
 | .no, .node .., h => by simp [Fo.same] at h
 | .node .., .no, h => by simp [Fo.same] at h
 | .node _ k r, .node _ k' r', h => by
   simp only [Fo.same, Bool.and_eq_true] at h
   have := Fo.same_len r r' h.2
   simp [Fo.len, this]
theorem Fo.exact_same : ∀ f g : Fo, f.exact g = true → f.same g = true
 | .no, .no, _ => rfl
 | .no, .node .., h => by simp [Fo.exact] at h
 | .node .., .no, h => by simp [Fo.exact] at h
 | .node _ k r, .node _ k' r', h => by
   simp only [Fo.exact, Bool.and_eq_true] at h
   simp only [Fo.same, Bool.and_eq_true]
   exact ⟨⟨h.1.1.1, Fo.exact_same k k' h.1.2⟩, Fo.exact_same r r' h.2⟩
def C (p : Nat × Nat) : Value := .complex .f64 (fl p.1) (fl p.2)
def At (w : World) (b : Nat) (d : Nd) (s : Value) : Prop :=
 w.cell? ⟨b, 0, none⟩ = some (.int .u8 d.kind) ∧ w.cell? ⟨b, 1, none⟩ = some (C d.pos) ∧ w.cell? ⟨b, 2, none⟩ = some (.string d.name) ∧ w.cell? ⟨b, 3, none⟩ = some (.int .i64 d.n) ∧ w.cell? ⟨b, 4, none⟩ = some s
def Rep (w : World) : Fo → List Value → Prop
 | .no, vs => vs = []
 | .node d k r, vs => ∃ b A c ks vs', vs = .pointer (some ⟨b, 0, none⟩) :: vs' ∧ At w b d (.slice A ks.length c) ∧ Reads w w.heap.size 1 A ks.length ks ∧ Rep w k ks ∧ Rep w r vs'
theorem cell_lt {w : World} {b o : Nat} {v : Value} (h : w.cell? ⟨b, o, none⟩ = some v) : b < w.heap.size := by
 rcases Nat.lt_or_ge b w.heap.size with h1 | h1
 ·exact h1
 ·unfold World.cell? at h
  simp [Array.getElem?_eq_none h1] at h
theorem At.lt {w : World} {b : Nat} {d : Nd} {s : Value} (h : At w b d s) : b < w.heap.size := cell_lt h.1
theorem At.below {w w' : World} {b : Nat} {d : Nd} {s : Value} (h : At w b d s) (hb : Below w.heap.size w w') : At w' b d s := by
 have hl := h.lt
 obtain ⟨h0, h1, h2, h3, h4⟩ := h
 exact ⟨(hb.cell (p := ⟨b, 0, none⟩) hl).trans h0, (hb.cell (p := ⟨b, 1, none⟩) hl).trans h1, (hb.cell (p := ⟨b, 2, none⟩) hl).trans h2, (hb.cell (p := ⟨b, 3, none⟩) hl).trans h3, (hb.cell (p := ⟨b, 4, none⟩) hl).trans h4⟩
theorem Rep.len {w : World} : ∀ {f : Fo} {vs : List Value}, Rep w f vs → vs.length = f.len
 | .no, vs, h => by unfold Rep at h; subst h; rfl
 | .node d k r, vs, h => by
   unfold Rep at h
   obtain ⟨b, A, c, ks, vs', rfl, _, _, _, h5⟩ := h
   simp [Fo.len, Rep.len h5]
theorem Rep.below {w w' : World} (hb : Below w.heap.size w w') : ∀ {f : Fo} {vs : List Value}, Rep w f vs → Rep w' f vs
 | .no, vs, h => by unfold Rep at h ⊢; exact h
 | .node d k r, vs, h => by
   unfold Rep at h ⊢
   obtain ⟨b, A, c, ks, vs', h1, h2, h3, h4, h5⟩ := h
   exact ⟨b, A, c, ks, vs', h1, h2.below hb, (h3.below hb).more hb.size, Rep.below hb h4, Rep.below hb h5⟩
theorem Rep.drewN {w : World} (n : Nat) {f : Fo} {vs : List Value} (h : Rep w f vs) : Rep (w.drewN n) f vs := h.below (below_drewN (Below.refl _ _) n)
end Go.Proofs.Ytecmjhohniipoaa.Tr
end

section
namespace Go.Proofs.Ytecmjhohniipoaa.Tr
open Go.RowKit
open Fl
theorem Rep.head {w : World} {d : Nd} {k r : Fo} {vs : List Value} (h : Rep w (.node d k r) vs) : ∃ v vs', vs = v :: vs' ∧ Rep w (.node d k .no) [v] ∧ Rep w r vs' := by
 unfold Rep at h
 obtain ⟨b, A, c, ks, vs', rfl, h2, h3, h4, h5⟩ := h
 exact ⟨_, _, rfl, ⟨b, A, c, ks, [], rfl, h2, h3, h4, rfl⟩, h5⟩
theorem Rep.one {w : World} {d : Nd} {k : Fo} {v : Value} (h : Rep w (.node d k .no) [v]) : ∃ b A c ks, v = .pointer (some ⟨b, 0, none⟩) ∧ At w b d (.slice A ks.length c) ∧ Reads w w.heap.size 1 A ks.length ks ∧ Rep w k ks := by
 unfold Rep at h
 obtain ⟨b, A, c, ks, vs', h1, h2, h3, h4, h5⟩ := h
 simp only [List.cons.injEq] at h1
 exact ⟨b, A, c, ks, h1.1, h2, h3, h4⟩
theorem Rep.at_ {w : World} {f : Fo} {vs : List Value} {i : Nat} (h : Rep w f (vs.drop i)) (hi : i < vs.length) : ∃ d k r, f = .node d k r ∧ Rep w (.node d k .no) [vs[i]] ∧ Rep w r (vs.drop (i + 1)) := by
 cases f with
 | no => unfold Rep at h; simp at h; omega
 | node d k r =>
   obtain ⟨v, vs', e, h1, h2⟩ := h.head
   rw [List.drop_eq_getElem_cons hi] at e
   simp only [List.cons.injEq] at e
   obtain ⟨rfl, rfl⟩ := e
   exact ⟨d, k, r, rfl, h1, h2⟩
theorem Rep.end_ {w : World} {f : Fo} {vs : List Value} {i : Nat} (h : Rep w f (vs.drop i)) (hi : ¬ i < vs.length) : f = .no := by
 cases f with
 | no => rfl
 | node d k r =>
   obtain ⟨v, vs', e, h1, h2⟩ := h.head
   rw [List.drop_eq_nil_of_le (by omega)] at e
   cases e
theorem Reads.nth {w : World} {B : Nat} {A : Option Addr} {vs : List Value} {i : Nat} (h : Reads w B 1 A vs.length vs) (hi : i < vs.length) : ∃ b off, A = some ⟨b, off, none⟩ ∧ w.cell? ⟨b, off + i, none⟩ = some vs[i] := by
 obtain ⟨b, off, u, e, _, hx, hc⟩ := h.spot hi
 rw [List.getElem?_eq_getElem hi] at hx
 injection hx with hx
 subst hx
 exact ⟨b, off, e, hc⟩
theorem Reads.len_le {w : World} {B : Nat} {A : Option Addr} {f : Fo} {vs : List Value} (h : Rep w f vs) : vs.length ≤ f.count := by
 rw [h.len]
 clear h
 induction f with
 | no => simp [Fo.len]
 | node d k r ih1 ih2 => simp [Fo.len, Fo.count]; omega
end Go.Proofs.Ytecmjhohniipoaa.Tr
end
