/- A part of the proof: L4, L5. -/
import Derived.Test.YtkemhmfdooghkaaGreatDoorZ1
import Derived.Test.YtkemhmfdooghkaaGreatDoorZ27
import Derived.Lib.SlicesS
import Derived.Lib.ConvBytes
import Derived.Lib.Strings
import Derived.Lib.Walk
import Derived.Lib.AtoiAllMem
import Derived.Laws.Strings3
import Derived.Laws.Closers25
import Derived.Laws.Closers25b
import Derived.BigCall
import Derived.BigGuard
set_option linter.unusedSimpArgs false
set_option linter.unusedVariables false

section
namespace Go.Proofs.YtkemhmfdooghkaaGreatDoor.Lx
open Go.RowKit
open Pl Fl
attribute [local go_sem] run_store_complexL
def tokEnd (s : List UInt8) (r : Except Nat (Tk × Nat)) (e : Ending) : Prop := match r with
 | .ok (t, n) => e = .returned (.tuple #[t.val (0, 0) (0, 0), .int .i64 n, .int .i64 0])
 | .error k => ∃ (t : Tk) (n : Nat), n ≤ s.length ∧ e = .returned (.tuple #[t.val (0, 0) (0, 0), .int .i64 n, .int .i64 k])
theorem tok_vals0 (k : Nat) (t : ByteArray) (n : Int) : (Tk.mk k t n).val (0, 0) (0, 0) = .agg #[.int .u8 k, .complex .f64 0 0, .complex .f64 0 0, .string t, .int .i64 n] := by
 simp [Tk.val, Tk.vals, C, fl_0]
set_option maxRecDepth 100000 in set_option maxHeartbeats 6400000 in
theorem name_any (s : ByteArray) (h0 : 0 < s.size) (hs : s.size ≤ 9223372036854775800) (hc : isL s[0] = true) {w : World} (E : EnvS w) :
 Calls Tryz.prog 67 #[.string s] w fun e w' => tokEnd s.data.toList (oneN s.data.toList) e ∧ Below w.heap.size w w' := by
 have HR := qh (run_part s hs)
 have HLE := runN_le isP s.data.toList
 have HE1 : ∀ k, runN isP s.data.toList = k → 32 < k → oneN s.data.toList = .error 5 := fun k hk h32 => by
  unfold oneN; rw [head_at s h0]; simp only [Option.getD_some, hc, if_true]; rw [hk, if_pos h32]
 have HE2 : ∀ k, runN isP s.data.toList = k → ¬ 32 < k → ∀ b, isW (s.extract 0 k) = b → oneN s.data.toList = .ok (⟨if b then 6 else 1, s.extract 0 k, 0⟩, k) := fun k hk h32 b hb => by
  unfold oneN; rw [head_at s h0]; simp only [Option.getD_some, hc, if_true]; rw [hk, if_neg h32, ← ext_take, hb]
 have HE1' := qh HE1
 have HE2' := qh HE2
 have HEn := qh E
 clear HE1 HE2 E
 go_enter Tryz.func67, Tryz.ntmps67
 go_wp2_with fail
 ((with_reducible refine (HR.out _).mono ?_); rintro e w1 ⟨rfl, rfl⟩)
 have hls : s.data.toList.length = s.size := by simp
 rw [hls] at HLE
 generalize hk : runN isP s.data.toList = k at *
 have x0 : (0 : Int) ≤ (k : Int) := by omega
 have x2 : (k : Int) ≤ (s.size : Int) := by omega
 clear hk HR
 by_cases h32 : 32 < k
 ·have HE := qh (HE1'.out k rfl h32)
  have h32' : (32 : Int) < (k : Int) := by omega
  clear HE1' HE2'
  go_wp2
  (try simp only [Exit.inBlock, Exit.then])
  refine bodyPost_ret (tok_ret3 rfl _ _ w.heap.size _ _ _ _ _ rfl ((Blk.new _ _ _).alloc _)) rfl ?_
  refine ⟨?_, ((Below.refl _ _).alloc (Nat.le_refl _) _).alloc (by simp) _⟩
  rw [HE.out]
  exact ⟨⟨1, s.extract 0 k, 0⟩, k, by rw [hls]; exact HLE, by rw [tok_vals0]; rfl⟩
 ·have HE := qh (HE2'.out k rfl h32)
  have h32' : ¬ (32 : Int) < (k : Int) := by omega
  have HW := qh (fun (w' : World) (E' : EnvS w') => Word_any (s.extract 0 k) (by simp; omega) E')
  clear HE1' HE2'
  go_wp2_with fail
  ((with_reducible refine (HW.out _ (HEn.out.below (Nat.le_refl _) (((Below.refl _ _).alloc (Nat.le_refl _) _).alloc (by simp) _))).mono ?_); rintro e w1 ⟨rfl, hw⟩)
  have hw2 := hw.symm
  subst hw2
  clear hw
  cases hw : isW (s.extract 0 k)
  all_goals
   have HE3 := qh (HE.out _ hw)
   go_wp2
   (try simp only [Exit.inBlock, Exit.then])
   refine bodyPost_ret (tok_ret3 rfl _ _ w.heap.size _ _ _ _ _ rfl ((Blk.new _ _ _).alloc _)) rfl ?_
   refine ⟨?_, ((Below.refl _ _).alloc (Nat.le_refl _) _).alloc (by simp) _⟩
   rw [HE3.out]
   simp [tokEnd, tok_vals0]
set_option maxRecDepth 100000 in set_option maxHeartbeats 6400000 in
theorem text_any (s : ByteArray) (h0 : 0 < s.size) (hs : s.size ≤ 9223372036854775800) (hl : isL s[0] = false) (hd : isD s[0] = false) (hq : s[0] = 34 ∨ s[0] = 39) (w : World) :
 Calls Tryz.prog 70 #[.string s] w fun e w' => tokEnd s.data.toList (oneN s.data.toList) e ∧ Below w.heap.size w w' := by
 have HQ := qh (one_quote s h0 hl hd hq)
 have HR := qh (fun (w' : World) (hg : w'.cell? ⟨w.heap.size, 0, none⟩ = some (.string s)) => run_text h0 w.heap.size (s.extract 1 s.size) (by simp; omega) w' hg)
 have HE := qh (ext_drop s 1)
 have HLE := qh (runN_le (isQ s[0]) (s.data.toList.drop 1))
 have x1 : (1 : Int) ≤ (s.size : Int) := by omega
 go_enter Tryz.func70, Tryz.ntmps70
 go_wp2_with fail
 ((with_reducible refine (HR.out _ ?_).mono ?_))
 ·simp
 rintro e w1 ⟨rfl, rfl⟩
 rw [HE.out]
 have hdl : (s.data.toList.drop 1).length = s.size - 1 := by simp
 have hls : s.data.toList.length = s.size := by simp
 rw [hdl] at HLE
 clear HR HE hdl
 have HQ2 := qh (fun k (h1 : 1 ≤ k) h2 => HQ.out k h1 h2)
 clear HQ
 obtain ⟨m, hm⟩ : ∃ m, m = runN (isQ s[0]) (s.data.toList.drop 1) := ⟨_, rfl⟩
 rw [← hm] at HLE ⊢
 obtain ⟨k, hk⟩ : ∃ k, k = m + 1 := ⟨_, rfl⟩
 have HQ3 := qh (HQ2.out k (by omega) (by rw [← hm]; omega))
 have hmk : m = k - 1 := by omega
 have hk1 : 1 ≤ k := by omega
 have hkl : k ≤ s.size := by have := HLE.out; omega
 clear HQ2 hm hk HLE
 subst hmk
 have hsum : 1 + ((k - 1 : Nat) : Int) = (k : Nat) := by omega
 have y0 : (0 : Int) ≤ (k : Int) := by omega
 have y1 : (1 : Int) ≤ (k : Int) := by omega
 have y2 : (k : Int) ≤ (s.size : Int) := by omega
 by_cases hks : k < s.size
 ·have y3 : (k : Int) < (s.size : Int) := by omega
  have z1 : ((k : Int) == (s.size : Int)) = false := by simp only [beq_eq_false_iff_ne, ne_eq]; omega
  have HA : Hid (s.data.toList[k]? = some s[k]) := qh (by have := congrArg List.head? (drop_cons s k hks); rw [List.head?_drop] at this; rw [this]; rfl)
  by_cases h10 : s[k] = 10
  ·have z2 : ((s[k].toNat : Int) == 10) = true := by rw [h10]; rfl
   have HN := qh (HQ3.out.1 (.inr (by rw [HA.out, h10])))
   clear HQ3 h10
   go_wp2
   (try simp only [Exit.inBlock, Exit.then])
   refine bodyPost_ret (tok_ret3 rfl _ _ (w.heap.size + 1) _ _ _ _ _ rfl (by have := Blk.new (w.alloc (.cells #[.string s] 9)) 40 #[.int .u8 0, .complex .f64 0 0, .complex .f64 0 0, .string ⟨#[]⟩, .int .i64 0]; rwa [World.size_alloc] at this)) rfl ?_
   refine ⟨?_, ((Below.refl _ _).alloc (Nat.le_refl _) _).alloc (by simp) _⟩
   rw [HN.out]
   exact ⟨⟨0, ⟨#[]⟩, 0⟩, k, by rw [hls]; exact hkl, by rw [tok_vals0]; rfl⟩
  ·have z2 : ((s[k].toNat : Int) == 10) = false := by
    simp only [beq_eq_false_iff_ne, ne_eq]
    exact fun e => h10 (UInt8.toNat_inj.1 (by rw [show (10 : UInt8).toNat = 10 from rfl]; omega))
   have HN := qh (HQ3.out.2 (by rw [HA.out]; simp; exact h10))
   clear HQ3 h10
   go_wp2
   (try simp only [Exit.inBlock, Exit.then])
   refine bodyPost_ret (tok_ret3 rfl _ _ (w.heap.size + 1) _ _ _ _ _ rfl (by have := Blk.new (w.alloc (.cells #[.string s] 9)) 40 #[.int .u8 4, .complex .f64 0 0, .complex .f64 0 0, .string (s.extract 1 k), .int .i64 0]; rwa [World.size_alloc] at this)) rfl ?_
   refine ⟨?_, ((Below.refl _ _).alloc (Nat.le_refl _) _).alloc (by simp) _⟩
   rw [HN.out]
   simp [tokEnd, tok_vals0]
 ·have hke : k = s.size := by omega
  have z1 : ((k : Int) == (s.size : Int)) = true := by simp [hke]
  have HN := qh (HQ3.out.1 (.inl (List.getElem?_eq_none (by rw [hls]; omega))))
  clear HQ3 hke
  go_wp2
  (try simp only [Exit.inBlock, Exit.then])
  refine bodyPost_ret (tok_ret3 rfl _ _ (w.heap.size + 1) _ _ _ _ _ rfl (by have := Blk.new (w.alloc (.cells #[.string s] 9)) 40 #[.int .u8 0, .complex .f64 0 0, .complex .f64 0 0, .string ⟨#[]⟩, .int .i64 0]; rwa [World.size_alloc] at this)) rfl ?_
  refine ⟨?_, ((Below.refl _ _).alloc (Nat.le_refl _) _).alloc (by simp) _⟩
  rw [HN.out]
  exact ⟨⟨0, ⟨#[]⟩, 0⟩, k, by rw [hls]; exact hkl, by rw [tok_vals0]; rfl⟩
theorem contains_two (x : ByteArray) : Lib.containsS twos x = twos.any (fun y => y.data.toList == x.data.toList) := by
 rw [Bool.eq_iff_iff, Lib.containsS_iff, List.any_eq_true]
 exact ⟨fun h => ⟨x, h, by simp⟩, fun ⟨y, h1, h2⟩ => by rw [← bytes_ext (eq_of_beq h2)]; exact h1⟩
theorem symN_of (s : ByteArray) (h0 : 0 < s.size) : symN s.data.toList = if twos.any (fun y => y.data.toList == s.data.toList.take 2) then 2 else if ones.contains s[0] then 1 else 0 := by
 unfold symN
 rw [head_at s h0]
 congr 1
theorem ext_one (s : ByteArray) (h0 : 0 < s.size) : s.extract 0 1 = ⟨#[s[0]]⟩ := by
 apply bytes_ext
 rw [take_data]
 have := drop_cons s 0 h0
 rw [List.drop_zero] at this
 rw [this]
 rfl
theorem twos_not1 (x : ByteArray) (h : x.data.toList.length < 2) : twos.any (fun y => y.data.toList == x.data.toList) = false := by
 rw [List.any_eq_false]
 intro y hy e
 have := congrArg List.length (eq_of_beq e)
 have := twos_size y hy
 omega
theorem cell_top {W : World} {cs : Array Value} {t : TypeId} {b : Nat} (hb : b = W.heap.size) (j : Nat) : (W.alloc (.cells cs t)).cell? ⟨b, j, none⟩ = cs[j]? := by
 subst hb; exact cell_of_row _ _ _ _ _ _ (heap_alloc_new W _)
set_option maxRecDepth 100000 in set_option maxHeartbeats 6400000 in
theorem symbol_anyP (s : ByteArray) (h0 : 0 < s.size) (hs : s.size ≤ 9223372036854775800) (hl : isL s[0] = false) (hd : isD s[0] = false) (hq : ¬ (s[0] = 34 ∨ s[0] = 39)) (w : World) :
 Calls Tryz.prog 71 #[.string s] w fun e w' => tokEnd s.data.toList (oneN s.data.toList) e ∧ Below w.heap.size w w' := by
 have hone : oneN s.data.toList = if symN s.data.toList = 0 then .error 40 else .ok (plainT (bt (s.data.toList.take (symN s.data.toList))), symN s.data.toList) := by
  unfold oneN
  rw [head_at s h0]
  simp only [Option.getD_some, hl, hd, hq, Bool.false_eq_true, if_false]
 have HO := qh hone
 have HSY := qh (symN_of s h0)
 have hcc := fun (w' : World) => Tryz.strings_Contains_one onesB s[0] w'
 rw [← ext_one s h0] at hcc
 unfold onesB at hcc
 have HC := qh hcc
 have HTW := qh (fun (b : Nat) (w' : World) (hc : ∀ j, j < twos.length → w'.cell? ⟨b, 0 + j, none⟩ = some (.string (twos.getD j ByteArray.empty))) => Tryz.slices_Contains_string b 0 5 5 twos (s.extract 0 2) w' (by decide) (by decide) hc)
 have x1 : (1 : Int) ≤ (s.size : Int) := by omega
 clear hone hcc
 go_enter Tryz.func71, Tryz.ntmps71
 by_cases h2 : 1 < s.size
 ·have x2 : (1 : Int) < (s.size : Int) := by omega
  have x3 : (2 : Int) ≤ (s.size : Int) := by omega
  have HE := qh (show Lib.containsS (twos.take 5) (s.extract 0 2) = twos.any (fun y => y.data.toList == s.data.toList.take 2) by
   rw [show twos.take 5 = twos from rfl, contains_two, take_data])
  go_wp2_with fail
  ((with_reducible refine (HTW.out _ _ ?_).mono ?_))
  ·intro j hj
   rw [cell_top (by simp)]
   rcases j with _ | _ | _ | _ | _ | j
   ·rfl
   ·rfl
   ·rfl
   ·rfl
   ·rfl
   ·exact absurd hj (by show ¬ _ < 5; omega)
  rintro e w1 ⟨rfl, hw⟩
  have hw2 := hw.symm
  subst hw2
  clear hw
  rw [HE.out]
  cases htw : twos.any (fun y => y.data.toList == s.data.toList.take 2)
  case' true =>
   have HN := qh (show symN s.data.toList = 2 by rw [HSY.out, htw]; rfl)
   clear HTW HE htw HC
   have hT : (s.extract 0 2).toList = (s.extract 0 2).data.toList := ByteArray.toList_eq _
   have HO2 := qh (show oneN s.data.toList = .ok (plainT (s.extract 0 2), 2) by rw [HO.out, HN.out, ← ext_take]; rfl)
   clear HO HN HSY
   by_cases h1 : (s.extract 0 2).data.toList = [60, 62]
   ·have b0 : ((s.extract 0 2).toList == [60, 62]) = true := by rw [hT, h1]; rfl
    have HP := qh (show plainT (s.extract 0 2) = ⟨5, ⟨#[35]⟩, 0⟩ by unfold plainT; rw [if_pos h1])
    clear hT h1
    go_wp2
    (try simp only [Exit.inBlock, Exit.then])
    refine bodyPost_ret (tok_ret3 rfl _ _ w.heap.size _ _ _ _ _ rfl (((Blk.new _ _ _).alloc _).alloc _)) rfl ?_
    refine ⟨?_, (((Below.refl _ _).alloc (Nat.le_refl _) _).alloc (by simp) _).alloc (by simp; omega) _⟩
    rw [HO2.out, HP.out]
    simp [tokEnd, tok_vals0]
   have b0 : ((s.extract 0 2).toList == [60, 62]) = false := by rw [hT]; simpa using h1
   by_cases h2 : (s.extract 0 2).data.toList = [38]
   ·have b1 : ((s.extract 0 2).toList == [38]) = true := by rw [hT, h2]; rfl
    have HP := qh (show plainT (s.extract 0 2) = ⟨6, ⟨#[65, 78, 68]⟩, 0⟩ by unfold plainT; rw [if_neg h1, if_pos h2])
    clear hT h1 h2
    go_wp2
    (try simp only [Exit.inBlock, Exit.then])
    refine bodyPost_ret (tok_ret3 rfl _ _ w.heap.size _ _ _ _ _ rfl (((Blk.new _ _ _).alloc _).alloc _)) rfl ?_
    refine ⟨?_, (((Below.refl _ _).alloc (Nat.le_refl _) _).alloc (by simp) _).alloc (by simp; omega) _⟩
    rw [HO2.out, HP.out]
    simp [tokEnd, tok_vals0]
   have b1 : ((s.extract 0 2).toList == [38]) = false := by rw [hT]; simpa using h2
   by_cases h3 : (s.extract 0 2).data.toList = [126]
   ·have b2 : ((s.extract 0 2).toList == [126]) = true := by rw [hT, h3]; rfl
    have HP := qh (show plainT (s.extract 0 2) = ⟨6, ⟨#[78, 79, 84]⟩, 0⟩ by unfold plainT; rw [if_neg h1, if_neg h2, if_pos h3])
    clear hT h1 h2 h3
    go_wp2
    (try simp only [Exit.inBlock, Exit.then])
    refine bodyPost_ret (tok_ret3 rfl _ _ w.heap.size _ _ _ _ _ rfl (((Blk.new _ _ _).alloc _).alloc _)) rfl ?_
    refine ⟨?_, (((Below.refl _ _).alloc (Nat.le_refl _) _).alloc (by simp) _).alloc (by simp; omega) _⟩
    rw [HO2.out, HP.out]
    simp [tokEnd, tok_vals0]
   have b2 : ((s.extract 0 2).toList == [126]) = false := by rw [hT]; simpa using h3
   have HP := qh (show plainT (s.extract 0 2) = ⟨5, s.extract 0 2, 0⟩ by unfold plainT; rw [if_neg h1, if_neg h2, if_neg h3])
   clear hT h1 h2 h3
   go_wp2
   (try simp only [Exit.inBlock, Exit.then])
   refine bodyPost_ret (tok_ret3 rfl _ _ w.heap.size _ _ _ _ _ rfl (((Blk.new _ _ _).alloc _).alloc _)) rfl ?_
   refine ⟨?_, (((Below.refl _ _).alloc (Nat.le_refl _) _).alloc (by simp) _).alloc (by simp; omega) _⟩
   rw [HO2.out, HP.out]
   simp [tokEnd, tok_vals0]
  case' false =>
   have HTF := qh htw
   clear HE htw
   go_wp2_with fail
   ((with_reducible refine (HC.out _).mono ?_); rintro e w2 ⟨rfl, hw⟩)
   have hw2 := hw.symm
   subst hw2
   clear hw
   rw [indexByte_nonneg, show ([43, 45, 42, 47, 126, 46, 44, 59, 40, 91, 123, 94, 61, 35, 60, 62, 58, 41, 93, 125, 124, 38] : List UInt8) = ones from rfl]
   cases hin : ones.contains s[0]
   ·have HN := qh (show oneN s.data.toList = .error 40 by rw [HO.out, HSY.out, HTF.out, hin]; rfl)
    clear HO HSY HTF hin HTW
    go_wp2
    (try simp only [Exit.inBlock, Exit.then])
    refine bodyPost_ret (tok_ret3 rfl _ _ w.heap.size _ _ _ _ _ rfl (((Blk.new _ _ _).alloc _).alloc _)) rfl ?_
    refine ⟨?_, (((Below.refl _ _).alloc (Nat.le_refl _) _).alloc (by simp) _).alloc (by simp; omega) _⟩
    rw [HN.out]
    exact ⟨⟨5, ⟨#[]⟩, 0⟩, 0, Nat.zero_le _, by rw [tok_vals0]; rfl⟩
   have HN := qh (show symN s.data.toList = 1 by rw [HSY.out, HTF.out, hin]; rfl)
   clear HTF hin HTW
   have hT : (s.extract 0 1).toList = (s.extract 0 1).data.toList := ByteArray.toList_eq _
   have HO2 := qh (show oneN s.data.toList = .ok (plainT (s.extract 0 1), 1) by rw [HO.out, HN.out, ← ext_take]; rfl)
   clear HO HN HSY
   by_cases h1 : (s.extract 0 1).data.toList = [60, 62]
   ·have b0 : ((s.extract 0 1).toList == [60, 62]) = true := by rw [hT, h1]; rfl
    have HP := qh (show plainT (s.extract 0 1) = ⟨5, ⟨#[35]⟩, 0⟩ by unfold plainT; rw [if_pos h1])
    clear hT h1
    go_wp2
    (try simp only [Exit.inBlock, Exit.then])
    refine bodyPost_ret (tok_ret3 rfl _ _ w.heap.size _ _ _ _ _ rfl (((Blk.new _ _ _).alloc _).alloc _)) rfl ?_
    refine ⟨?_, (((Below.refl _ _).alloc (Nat.le_refl _) _).alloc (by simp) _).alloc (by simp; omega) _⟩
    rw [HO2.out, HP.out]
    simp [tokEnd, tok_vals0]
   have b0 : ((s.extract 0 1).toList == [60, 62]) = false := by rw [hT]; simpa using h1
   by_cases h2 : (s.extract 0 1).data.toList = [38]
   ·have b1 : ((s.extract 0 1).toList == [38]) = true := by rw [hT, h2]; rfl
    have HP := qh (show plainT (s.extract 0 1) = ⟨6, ⟨#[65, 78, 68]⟩, 0⟩ by unfold plainT; rw [if_neg h1, if_pos h2])
    clear hT h1 h2
    go_wp2
    (try simp only [Exit.inBlock, Exit.then])
    refine bodyPost_ret (tok_ret3 rfl _ _ w.heap.size _ _ _ _ _ rfl (((Blk.new _ _ _).alloc _).alloc _)) rfl ?_
    refine ⟨?_, (((Below.refl _ _).alloc (Nat.le_refl _) _).alloc (by simp) _).alloc (by simp; omega) _⟩
    rw [HO2.out, HP.out]
    simp [tokEnd, tok_vals0]
   have b1 : ((s.extract 0 1).toList == [38]) = false := by rw [hT]; simpa using h2
   by_cases h3 : (s.extract 0 1).data.toList = [126]
   ·have b2 : ((s.extract 0 1).toList == [126]) = true := by rw [hT, h3]; rfl
    have HP := qh (show plainT (s.extract 0 1) = ⟨6, ⟨#[78, 79, 84]⟩, 0⟩ by unfold plainT; rw [if_neg h1, if_neg h2, if_pos h3])
    clear hT h1 h2 h3
    go_wp2
    (try simp only [Exit.inBlock, Exit.then])
    refine bodyPost_ret (tok_ret3 rfl _ _ w.heap.size _ _ _ _ _ rfl (((Blk.new _ _ _).alloc _).alloc _)) rfl ?_
    refine ⟨?_, (((Below.refl _ _).alloc (Nat.le_refl _) _).alloc (by simp) _).alloc (by simp; omega) _⟩
    rw [HO2.out, HP.out]
    simp [tokEnd, tok_vals0]
   have b2 : ((s.extract 0 1).toList == [126]) = false := by rw [hT]; simpa using h3
   have HP := qh (show plainT (s.extract 0 1) = ⟨5, s.extract 0 1, 0⟩ by unfold plainT; rw [if_neg h1, if_neg h2, if_neg h3])
   clear hT h1 h2 h3
   go_wp2
   (try simp only [Exit.inBlock, Exit.then])
   refine bodyPost_ret (tok_ret3 rfl _ _ w.heap.size _ _ _ _ _ rfl (((Blk.new _ _ _).alloc _).alloc _)) rfl ?_
   refine ⟨?_, (((Below.refl _ _).alloc (Nat.le_refl _) _).alloc (by simp) _).alloc (by simp; omega) _⟩
   rw [HO2.out, HP.out]
   simp [tokEnd, tok_vals0]
 ·have x2 : ¬ (1 : Int) < (s.size : Int) := by omega
  have x4 : decide ((1 : Int) < (s.size : Int)) = false := decide_eq_false x2
  have HTF := qh (show twos.any (fun y => y.data.toList == s.data.toList.take 2) = false by
   have hh : s.data.toList.take 2 = s.data.toList := List.take_of_length_le (by simp; omega)
   rw [hh]
   exact twos_not1 s (by simp; omega))
  go_wp2_with fail
  ((with_reducible refine (HC.out _).mono ?_); rintro e w2 ⟨rfl, hw⟩)
  have hw2 := hw.symm
  subst hw2
  clear hw
  rw [indexByte_nonneg, show ([43, 45, 42, 47, 126, 46, 44, 59, 40, 91, 123, 94, 61, 35, 60, 62, 58, 41, 93, 125, 124, 38] : List UInt8) = ones from rfl]
  cases hin : ones.contains s[0]
  ·have HN := qh (show oneN s.data.toList = .error 40 by rw [HO.out, HSY.out, HTF.out, hin]; rfl)
   clear HO HSY HTF hin HTW
   go_wp2
   (try simp only [Exit.inBlock, Exit.then])
   refine bodyPost_ret (tok_ret3 rfl _ _ w.heap.size _ _ _ _ _ rfl ((Blk.new _ _ _).alloc _)) rfl ?_
   refine ⟨?_, ((Below.refl _ _).alloc (Nat.le_refl _) _).alloc (by simp) _⟩
   rw [HN.out]
   exact ⟨⟨5, ⟨#[]⟩, 0⟩, 0, Nat.zero_le _, by rw [tok_vals0]; rfl⟩
  have HN := qh (show symN s.data.toList = 1 by rw [HSY.out, HTF.out, hin]; rfl)
  clear HTF hin HTW
  have hT : (s.extract 0 1).toList = (s.extract 0 1).data.toList := ByteArray.toList_eq _
  have HO2 := qh (show oneN s.data.toList = .ok (plainT (s.extract 0 1), 1) by rw [HO.out, HN.out, ← ext_take]; rfl)
  clear HO HN HSY
  by_cases h1 : (s.extract 0 1).data.toList = [60, 62]
  ·have b0 : ((s.extract 0 1).toList == [60, 62]) = true := by rw [hT, h1]; rfl
   have HP := qh (show plainT (s.extract 0 1) = ⟨5, ⟨#[35]⟩, 0⟩ by unfold plainT; rw [if_pos h1])
   clear hT h1
   go_wp2
   (try simp only [Exit.inBlock, Exit.then])
   refine bodyPost_ret (tok_ret3 rfl _ _ w.heap.size _ _ _ _ _ rfl ((Blk.new _ _ _).alloc _)) rfl ?_
   refine ⟨?_, ((Below.refl _ _).alloc (Nat.le_refl _) _).alloc (by simp) _⟩
   rw [HO2.out, HP.out]
   simp [tokEnd, tok_vals0]
  have b0 : ((s.extract 0 1).toList == [60, 62]) = false := by rw [hT]; simpa using h1
  by_cases h2 : (s.extract 0 1).data.toList = [38]
  ·have b1 : ((s.extract 0 1).toList == [38]) = true := by rw [hT, h2]; rfl
   have HP := qh (show plainT (s.extract 0 1) = ⟨6, ⟨#[65, 78, 68]⟩, 0⟩ by unfold plainT; rw [if_neg h1, if_pos h2])
   clear hT h1 h2
   go_wp2
   (try simp only [Exit.inBlock, Exit.then])
   refine bodyPost_ret (tok_ret3 rfl _ _ w.heap.size _ _ _ _ _ rfl ((Blk.new _ _ _).alloc _)) rfl ?_
   refine ⟨?_, ((Below.refl _ _).alloc (Nat.le_refl _) _).alloc (by simp) _⟩
   rw [HO2.out, HP.out]
   simp [tokEnd, tok_vals0]
  have b1 : ((s.extract 0 1).toList == [38]) = false := by rw [hT]; simpa using h2
  by_cases h3 : (s.extract 0 1).data.toList = [126]
  ·have b2 : ((s.extract 0 1).toList == [126]) = true := by rw [hT, h3]; rfl
   have HP := qh (show plainT (s.extract 0 1) = ⟨6, ⟨#[78, 79, 84]⟩, 0⟩ by unfold plainT; rw [if_neg h1, if_neg h2, if_pos h3])
   clear hT h1 h2 h3
   go_wp2
   (try simp only [Exit.inBlock, Exit.then])
   refine bodyPost_ret (tok_ret3 rfl _ _ w.heap.size _ _ _ _ _ rfl ((Blk.new _ _ _).alloc _)) rfl ?_
   refine ⟨?_, ((Below.refl _ _).alloc (Nat.le_refl _) _).alloc (by simp) _⟩
   rw [HO2.out, HP.out]
   simp [tokEnd, tok_vals0]
  have b2 : ((s.extract 0 1).toList == [126]) = false := by rw [hT]; simpa using h3
  have HP := qh (show plainT (s.extract 0 1) = ⟨5, s.extract 0 1, 0⟩ by unfold plainT; rw [if_neg h1, if_neg h2, if_neg h3])
  clear hT h1 h2 h3
  go_wp2
  (try simp only [Exit.inBlock, Exit.then])
  refine bodyPost_ret (tok_ret3 rfl _ _ w.heap.size _ _ _ _ _ rfl ((Blk.new _ _ _).alloc _)) rfl ?_
  refine ⟨?_, ((Below.refl _ _).alloc (Nat.le_refl _) _).alloc (by simp) _⟩
  rw [HO2.out, HP.out]
  simp [tokEnd, tok_vals0]
end Go.Proofs.YtkemhmfdooghkaaGreatDoor.Lx
end

section
namespace Go.Proofs.YtkemhmfdooghkaaGreatDoor.Lx
open Go.RowKit
open Pl Fl
def pU (B : Nat) : Nat → List UInt8 → Except Nat Nat
 | n, [] => .ok n
 | n, c :: r => if B ≤ dgt c then .error 2 else if 18446744073709551616 ≤ n * B + dgt c then .error 1 else pU B (n * B + dgt c) r
def pUEnd (r : Except Nat Nat) (e : Ending) : Prop := match r with
 | .ok v => e = .returned (.tuple #[.int .u64 v, .nilIface])
 | .error k => ∃ v : Int, e = .returned (.tuple #[.int .u64 v, .iface 145 (.int .i64 k)])
theorem lower_hex (c : UInt8) (h1 : 65 ≤ c.toNat) (h2 : c.toNat ≤ 70) (w : World) : Calls Tryz.prog 126 #[.int .u8 c.toNat] w fun e w' => e = .returned (.int .u8 ((c.toNat : Int) + 32)) ∧ w' = w := by
 refine (Tryz.internal_strconv_lower (c.toNat : Int) w).mono fun e w' ⟨he, hw⟩ => ⟨?_, hw⟩
 rw [he]
 have : c.toNat = 65 ∨ c.toNat = 66 ∨ c.toNat = 67 ∨ c.toNat = 68 ∨ c.toNat = 69 ∨ c.toNat = 70 := by omega
 rcases this with h | h | h | h | h | h <;> (rw [h]; rfl)
theorem pU_bad {B : Nat} {c : UInt8} (h : B ≤ dgt c) (n : Nat) (r : List UInt8) : pU B n (c :: r) = .error 2 := by unfold pU; rw [if_pos h]
theorem pU_big {B : Nat} {c : UInt8} (h : ¬ B ≤ dgt c) {n : Nat} (h2 : 18446744073709551616 ≤ n * B + dgt c) (r : List UInt8) : pU B n (c :: r) = .error 1 := by unfold pU; rw [if_neg h, if_pos h2]
theorem pU_step {B : Nat} {c : UInt8} (h : ¬ B ≤ dgt c) {n : Nat} (h2 : ¬ 18446744073709551616 ≤ n * B + dgt c) (r : List UInt8) : pU B n (c :: r) = pU B (n * B + dgt c) r := by rw [pU, if_neg h, if_neg h2]
set_option maxHeartbeats 32000000 in
set_option maxRecDepth 100000 in
theorem parseI8 (t : ByteArray) (hne : t.size ≠ 0) (hmax : t.size ≤ 9223372036854775800) (hX : ∀ c ∈ t.data.toList, isX c = true) (w : World) :
 Calls Tryz.prog 104 #[.string t, .int .i64 8, .int .i64 64] w fun e w' => pUEnd (pU 8 0 t.data.toList) e ∧ w' = Lib.bytesWorld w 5 t := by
 have hemp : t.toList.isEmpty = false := by
  rw [ByteArray.toList_eq, List.isEmpty_eq_false_iff, ne_eq, empty_iff]; exact hne
 have hemp2 : ¬ t.toList = [] := by
  rw [ByteArray.toList_eq, empty_iff]; exact hne
 have hcv := Lib.run_convert_string_bytes (P := Tryz.prog) w 9 22 5 t (u := .string) Tryz.underlying9 Tryz.underlying22 Tryz.underlying5
 have hB : ∀ j, j < t.size → (Lib.bytesWorld w 5 t).cell? ⟨w.heap.size, j, none⟩ = some (.int .u8 (t.data.toList.getD j 0).toNat) := fun j hj => Lib.bytesWorld_cell w 5 t j hj
 obtain ⟨W1, hW1⟩ : ∃ W1, W1 = Lib.bytesWorld w 5 t := ⟨_, rfl⟩
 rw [← hW1] at hcv hB ⊢
 clear hW1
 obtain ⟨bs, hL⟩ : ∃ bs, bs = t.data.toList := ⟨_, rfl⟩
 have hLn : bs.length = t.size := by rw [hL, Lib.size_eq]
 rw [← hL] at hB hX ⊢
 clear hL
 have hmv : IntKind.u64.wrap (IntKind.u64.wrap 18446744073709551616 - 1) = 18446744073709551615 := by
  rw [IntKind.wrap_u64, IntKind.wrap_u64]
  decide
 have HB := qh hB
 have HX := qh hX
 clear hB hX
 go_enter Tryz.func104, Tryz.ntmps104
 go_wp2
 go_loop [12, 13, 101] (fun vu vn vi => ∃ (k acc : Nat) (a : Int), vu = .bool false ∧ vn = .int .u64 a ∧ vi = .int .i64 k ∧ k ≤ t.size ∧ Hid (a = (acc : Int) ∧ acc < 18446744073709551616 ∧ pU 8 0 bs = pU 8 acc (bs.drop k)))
  (fun _ _ vi => t.size - (intOf vi).toNat)
 case atStart => exact ⟨0, 0, 0, rfl, rfl, rfl, by omega, qh ⟨rfl, by omega, rfl⟩⟩
 case round =>
  obtain ⟨k, acc, a, rfl, rfl, rfl, hk, hh⟩ := hrel
  obtain ⟨ha, hacc, hdec⟩ := hh.out
  clear hh
  have a0 : 0 ≤ a := by omega
  have a1 : a < 18446744073709551616 := by omega
  by_cases hkn : k < t.size
  ·have hc := HB.out k hkn
   have hdrop : bs.drop k = bs[k]'(by omega) :: bs.drop (k + 1) := List.drop_eq_getElem_cons (by omega)
   have hget : bs.getD k 0 = bs[k]'(by omega) := by simp [List.getD, List.getElem?_eq_getElem (show k < bs.length by omega)]
   have hxc := HX.out (bs[k]'(by omega)) (List.getElem_mem _)
   rw [hdrop] at hdec
   rw [hget] at hc
   generalize bs[k]'(by omega) = c at hc hdec hxc
   have hc256 : c.toNat < 256 := c.toNat_lt
   have hx2 : 48 ≤ c.toNat ∧ c.toNat ≤ 57 ∨ 65 ≤ c.toNat ∧ c.toNat ≤ 70 := by
    unfold isX isD at hxc
    simp only [Bool.or_eq_true, Bool.and_eq_true, decide_eq_true_eq] at hxc
    omega
   have hdg : (65 ≤ c.toNat → dgt c = c.toNat - 55) ∧ (c.toNat < 65 → dgt c = c.toNat - 48) := ⟨fun h => by unfold dgt; rw [if_pos h], fun h => by unfold dgt; rw [if_neg (by omega)]⟩
   clear hdrop hget hxc
   rcases hx2 with ⟨hd0, hd1⟩ | ⟨hd0, hd1⟩
   ·have hdd := hdg.2 (by omega)
    clear hdg
    by_cases hb : 8 ≤ dgt c
    ·have HF := qh (show pU 8 0 bs = .error 2 by rw [hdec]; exact pU_bad (by omega) _ _)
     have ibad : 8 ≤ ((c.toNat : Int) - 48) := by omega
     clear hacc ha hdec
     go_wp2
     go_ret2
     refine ⟨?_, rfl⟩
     rw [HF.out]
     exact ⟨_, rfl⟩
    have inb : ((c.toNat : Int) - 48) < 8 := by omega
    by_cases hcut : 2305843009213693952 ≤ acc
    ·have HF := qh (show pU 8 0 bs = .error 1 by rw [hdec]; exact pU_big (by omega) (by omega) _)
     have icut : 2305843009213693952 ≤ a := by omega
     clear hcut hacc ha hdec
     go_wp2
     go_ret2
     refine ⟨?_, rfl⟩
     rw [HF.out]
     exact ⟨_, rfl⟩
    by_cases hov : 18446744073709551616 ≤ acc * 8 + dgt c
    ·exact absurd hov (by omega)
    ·have HN : Hid (a * 8 + (((c.toNat : Int) - 48)) = ((acc * 8 + dgt c : Nat) : Int) ∧ acc * 8 + dgt c < 18446744073709551616 ∧ pU 8 0 bs = pU 8 (acc * 8 + dgt c) (bs.drop (k + 1))) := qh ⟨by omega, by omega, hdec.trans (pU_step (by omega) hov _)⟩
     have icut : a < 2305843009213693952 := by omega
     have iov : a * 8 + (((c.toNat : Int) - 48)) < 18446744073709551616 := by omega
     clear hcut hacc ha hdec hov
     go_wp2
     refine ⟨⟨k + 1, acc * 8 + dgt c, a * 8 + (((c.toNat : Int) - 48)), rfl, (by first | rfl | (congr 1; omega)), (by first | rfl | (congr 1; omega)), by omega, HN⟩, by simp [intOf]; omega⟩
   ·have hdd := hdg.1 (by omega)
    clear hdg
    have HF := qh (show pU 8 0 bs = .error 2 by rw [hdec]; exact pU_bad (by omega) _ _)
    have ibad : 8 ≤ ((c.toNat : Int) + 32 - 97 + 10) := by omega
    clear hacc ha hdec
    go_wp2_with (go_at_call 126; refine (lower_hex c hd0 hd1 _).mono ?_; rintro e w' ⟨rfl, rfl⟩)
    go_ret2
    refine ⟨?_, rfl⟩
    rw [HF.out]
    exact ⟨_, rfl⟩
  ·have hkk : k = t.size := by omega
   subst hkk
   have HF := qh (show pU 8 0 bs = .ok acc by rw [hdec, List.drop_eq_nil_of_le (by omega)]; rfl)
   clear hdec
   subst ha
   clear hacc a0 a1
   go_wp2
   go_ret2
   exact ⟨by rw [HF.out]; rfl, rfl⟩
set_option maxHeartbeats 32000000 in
set_option maxRecDepth 100000 in
theorem parseI10 (t : ByteArray) (hne : t.size ≠ 0) (hmax : t.size ≤ 9223372036854775800) (hX : ∀ c ∈ t.data.toList, isX c = true) (w : World) :
 Calls Tryz.prog 104 #[.string t, .int .i64 10, .int .i64 64] w fun e w' => pUEnd (pU 10 0 t.data.toList) e ∧ w' = Lib.bytesWorld w 5 t := by
 have hemp : t.toList.isEmpty = false := by
  rw [ByteArray.toList_eq, List.isEmpty_eq_false_iff, ne_eq, empty_iff]; exact hne
 have hemp2 : ¬ t.toList = [] := by
  rw [ByteArray.toList_eq, empty_iff]; exact hne
 have hcv := Lib.run_convert_string_bytes (P := Tryz.prog) w 9 22 5 t (u := .string) Tryz.underlying9 Tryz.underlying22 Tryz.underlying5
 have hB : ∀ j, j < t.size → (Lib.bytesWorld w 5 t).cell? ⟨w.heap.size, j, none⟩ = some (.int .u8 (t.data.toList.getD j 0).toNat) := fun j hj => Lib.bytesWorld_cell w 5 t j hj
 obtain ⟨W1, hW1⟩ : ∃ W1, W1 = Lib.bytesWorld w 5 t := ⟨_, rfl⟩
 rw [← hW1] at hcv hB ⊢
 clear hW1
 obtain ⟨bs, hL⟩ : ∃ bs, bs = t.data.toList := ⟨_, rfl⟩
 have hLn : bs.length = t.size := by rw [hL, Lib.size_eq]
 rw [← hL] at hB hX ⊢
 clear hL
 have hmv : IntKind.u64.wrap (IntKind.u64.wrap 18446744073709551616 - 1) = 18446744073709551615 := by
  rw [IntKind.wrap_u64, IntKind.wrap_u64]
  decide
 have HB := qh hB
 have HX := qh hX
 clear hB hX
 go_enter Tryz.func104, Tryz.ntmps104
 go_wp2
 go_loop [12, 13, 101] (fun vu vn vi => ∃ (k acc : Nat) (a : Int), vu = .bool false ∧ vn = .int .u64 a ∧ vi = .int .i64 k ∧ k ≤ t.size ∧ Hid (a = (acc : Int) ∧ acc < 18446744073709551616 ∧ pU 10 0 bs = pU 10 acc (bs.drop k)))
  (fun _ _ vi => t.size - (intOf vi).toNat)
 case atStart => exact ⟨0, 0, 0, rfl, rfl, rfl, by omega, qh ⟨rfl, by omega, rfl⟩⟩
 case round =>
  obtain ⟨k, acc, a, rfl, rfl, rfl, hk, hh⟩ := hrel
  obtain ⟨ha, hacc, hdec⟩ := hh.out
  clear hh
  have a0 : 0 ≤ a := by omega
  have a1 : a < 18446744073709551616 := by omega
  by_cases hkn : k < t.size
  ·have hc := HB.out k hkn
   have hdrop : bs.drop k = bs[k]'(by omega) :: bs.drop (k + 1) := List.drop_eq_getElem_cons (by omega)
   have hget : bs.getD k 0 = bs[k]'(by omega) := by simp [List.getD, List.getElem?_eq_getElem (show k < bs.length by omega)]
   have hxc := HX.out (bs[k]'(by omega)) (List.getElem_mem _)
   rw [hdrop] at hdec
   rw [hget] at hc
   generalize bs[k]'(by omega) = c at hc hdec hxc
   have hc256 : c.toNat < 256 := c.toNat_lt
   have hx2 : 48 ≤ c.toNat ∧ c.toNat ≤ 57 ∨ 65 ≤ c.toNat ∧ c.toNat ≤ 70 := by
    unfold isX isD at hxc
    simp only [Bool.or_eq_true, Bool.and_eq_true, decide_eq_true_eq] at hxc
    omega
   have hdg : (65 ≤ c.toNat → dgt c = c.toNat - 55) ∧ (c.toNat < 65 → dgt c = c.toNat - 48) := ⟨fun h => by unfold dgt; rw [if_pos h], fun h => by unfold dgt; rw [if_neg (by omega)]⟩
   clear hdrop hget hxc
   rcases hx2 with ⟨hd0, hd1⟩ | ⟨hd0, hd1⟩
   ·have hdd := hdg.2 (by omega)
    clear hdg
    by_cases hcut : 1844674407370955162 ≤ acc
    ·have HF := qh (show pU 10 0 bs = .error 1 by rw [hdec]; exact pU_big (by omega) (by omega) _)
     have icut : 1844674407370955162 ≤ a := by omega
     clear hcut hacc ha hdec
     go_wp2
     go_ret2
     refine ⟨?_, rfl⟩
     rw [HF.out]
     exact ⟨_, rfl⟩
    by_cases hov : 18446744073709551616 ≤ acc * 10 + dgt c
    ·have HF := qh (show pU 10 0 bs = .error 1 by rw [hdec]; exact pU_big (by omega) hov _)
     have icut : a < 1844674407370955162 := by omega
     have iov : 18446744073709551616 ≤ a * 10 + (((c.toNat : Int) - 48)) := by omega
     have hwr : IntKind.u64.wrap (a * 10 + (((c.toNat : Int) - 48))) = a * 10 + (((c.toNat : Int) - 48)) - 18446744073709551616 := by
      rw [IntKind.wrap_u64]
      omega
     clear hcut hacc ha hdec hov
     go_wp2
     go_ret2
     refine ⟨?_, rfl⟩
     rw [HF.out]
     exact ⟨_, rfl⟩
    ·have HN : Hid (a * 10 + (((c.toNat : Int) - 48)) = ((acc * 10 + dgt c : Nat) : Int) ∧ acc * 10 + dgt c < 18446744073709551616 ∧ pU 10 0 bs = pU 10 (acc * 10 + dgt c) (bs.drop (k + 1))) := qh ⟨by omega, by omega, hdec.trans (pU_step (by omega) hov _)⟩
     have icut : a < 1844674407370955162 := by omega
     have iov : a * 10 + (((c.toNat : Int) - 48)) < 18446744073709551616 := by omega
     clear hcut hacc ha hdec hov
     go_wp2
     refine ⟨⟨k + 1, acc * 10 + dgt c, a * 10 + (((c.toNat : Int) - 48)), rfl, (by first | rfl | (congr 1; omega)), (by first | rfl | (congr 1; omega)), by omega, HN⟩, by simp [intOf]; omega⟩
   ·have hdd := hdg.1 (by omega)
    clear hdg
    have HF := qh (show pU 10 0 bs = .error 2 by rw [hdec]; exact pU_bad (by omega) _ _)
    have ibad : 10 ≤ ((c.toNat : Int) + 32 - 97 + 10) := by omega
    clear hacc ha hdec
    go_wp2_with (go_at_call 126; refine (lower_hex c hd0 hd1 _).mono ?_; rintro e w' ⟨rfl, rfl⟩)
    go_ret2
    refine ⟨?_, rfl⟩
    rw [HF.out]
    exact ⟨_, rfl⟩
  ·have hkk : k = t.size := by omega
   subst hkk
   have HF := qh (show pU 10 0 bs = .ok acc by rw [hdec, List.drop_eq_nil_of_le (by omega)]; rfl)
   clear hdec
   subst ha
   clear hacc a0 a1
   go_wp2
   go_ret2
   exact ⟨by rw [HF.out]; rfl, rfl⟩
set_option maxHeartbeats 32000000 in
set_option maxRecDepth 100000 in
theorem parseI16 (t : ByteArray) (hne : t.size ≠ 0) (hmax : t.size ≤ 9223372036854775800) (hX : ∀ c ∈ t.data.toList, isX c = true) (w : World) :
 Calls Tryz.prog 104 #[.string t, .int .i64 16, .int .i64 64] w fun e w' => pUEnd (pU 16 0 t.data.toList) e ∧ w' = Lib.bytesWorld w 5 t := by
 have hemp : t.toList.isEmpty = false := by
  rw [ByteArray.toList_eq, List.isEmpty_eq_false_iff, ne_eq, empty_iff]; exact hne
 have hemp2 : ¬ t.toList = [] := by
  rw [ByteArray.toList_eq, empty_iff]; exact hne
 have hcv := Lib.run_convert_string_bytes (P := Tryz.prog) w 9 22 5 t (u := .string) Tryz.underlying9 Tryz.underlying22 Tryz.underlying5
 have hB : ∀ j, j < t.size → (Lib.bytesWorld w 5 t).cell? ⟨w.heap.size, j, none⟩ = some (.int .u8 (t.data.toList.getD j 0).toNat) := fun j hj => Lib.bytesWorld_cell w 5 t j hj
 obtain ⟨W1, hW1⟩ : ∃ W1, W1 = Lib.bytesWorld w 5 t := ⟨_, rfl⟩
 rw [← hW1] at hcv hB ⊢
 clear hW1
 obtain ⟨bs, hL⟩ : ∃ bs, bs = t.data.toList := ⟨_, rfl⟩
 have hLn : bs.length = t.size := by rw [hL, Lib.size_eq]
 rw [← hL] at hB hX ⊢
 clear hL
 have hmv : IntKind.u64.wrap (IntKind.u64.wrap 18446744073709551616 - 1) = 18446744073709551615 := by
  rw [IntKind.wrap_u64, IntKind.wrap_u64]
  decide
 have HB := qh hB
 have HX := qh hX
 clear hB hX
 go_enter Tryz.func104, Tryz.ntmps104
 go_wp2
 go_loop [12, 13, 101] (fun vu vn vi => ∃ (k acc : Nat) (a : Int), vu = .bool false ∧ vn = .int .u64 a ∧ vi = .int .i64 k ∧ k ≤ t.size ∧ Hid (a = (acc : Int) ∧ acc < 18446744073709551616 ∧ pU 16 0 bs = pU 16 acc (bs.drop k)))
  (fun _ _ vi => t.size - (intOf vi).toNat)
 case atStart => exact ⟨0, 0, 0, rfl, rfl, rfl, by omega, qh ⟨rfl, by omega, rfl⟩⟩
 case round =>
  obtain ⟨k, acc, a, rfl, rfl, rfl, hk, hh⟩ := hrel
  obtain ⟨ha, hacc, hdec⟩ := hh.out
  clear hh
  have a0 : 0 ≤ a := by omega
  have a1 : a < 18446744073709551616 := by omega
  by_cases hkn : k < t.size
  ·have hc := HB.out k hkn
   have hdrop : bs.drop k = bs[k]'(by omega) :: bs.drop (k + 1) := List.drop_eq_getElem_cons (by omega)
   have hget : bs.getD k 0 = bs[k]'(by omega) := by simp [List.getD, List.getElem?_eq_getElem (show k < bs.length by omega)]
   have hxc := HX.out (bs[k]'(by omega)) (List.getElem_mem _)
   rw [hdrop] at hdec
   rw [hget] at hc
   generalize bs[k]'(by omega) = c at hc hdec hxc
   have hc256 : c.toNat < 256 := c.toNat_lt
   have hx2 : 48 ≤ c.toNat ∧ c.toNat ≤ 57 ∨ 65 ≤ c.toNat ∧ c.toNat ≤ 70 := by
    unfold isX isD at hxc
    simp only [Bool.or_eq_true, Bool.and_eq_true, decide_eq_true_eq] at hxc
    omega
   have hdg : (65 ≤ c.toNat → dgt c = c.toNat - 55) ∧ (c.toNat < 65 → dgt c = c.toNat - 48) := ⟨fun h => by unfold dgt; rw [if_pos h], fun h => by unfold dgt; rw [if_neg (by omega)]⟩
   clear hdrop hget hxc
   rcases hx2 with ⟨hd0, hd1⟩ | ⟨hd0, hd1⟩
   ·have hdd := hdg.2 (by omega)
    clear hdg
    by_cases hcut : 1152921504606846976 ≤ acc
    ·have HF := qh (show pU 16 0 bs = .error 1 by rw [hdec]; exact pU_big (by omega) (by omega) _)
     have icut : 1152921504606846976 ≤ a := by omega
     clear hcut hacc ha hdec
     go_wp2
     go_ret2
     refine ⟨?_, rfl⟩
     rw [HF.out]
     exact ⟨_, rfl⟩
    by_cases hov : 18446744073709551616 ≤ acc * 16 + dgt c
    ·exact absurd hov (by omega)
    ·have HN : Hid (a * 16 + (((c.toNat : Int) - 48)) = ((acc * 16 + dgt c : Nat) : Int) ∧ acc * 16 + dgt c < 18446744073709551616 ∧ pU 16 0 bs = pU 16 (acc * 16 + dgt c) (bs.drop (k + 1))) := qh ⟨by omega, by omega, hdec.trans (pU_step (by omega) hov _)⟩
     have icut : a < 1152921504606846976 := by omega
     have iov : a * 16 + (((c.toNat : Int) - 48)) < 18446744073709551616 := by omega
     clear hcut hacc ha hdec hov
     go_wp2
     refine ⟨⟨k + 1, acc * 16 + dgt c, a * 16 + (((c.toNat : Int) - 48)), rfl, (by first | rfl | (congr 1; omega)), (by first | rfl | (congr 1; omega)), by omega, HN⟩, by simp [intOf]; omega⟩
   ·have hdd := hdg.1 (by omega)
    clear hdg
    by_cases hcut : 1152921504606846976 ≤ acc
    ·have HF := qh (show pU 16 0 bs = .error 1 by rw [hdec]; exact pU_big (by omega) (by omega) _)
     have icut : 1152921504606846976 ≤ a := by omega
     clear hcut hacc ha hdec
     go_wp2_with (go_at_call 126; refine (lower_hex c hd0 hd1 _).mono ?_; rintro e w' ⟨rfl, rfl⟩)
     go_ret2
     refine ⟨?_, rfl⟩
     rw [HF.out]
     exact ⟨_, rfl⟩
    by_cases hov : 18446744073709551616 ≤ acc * 16 + dgt c
    ·exact absurd hov (by omega)
    ·have HN : Hid (a * 16 + (((c.toNat : Int) + 32 - 97 + 10)) = ((acc * 16 + dgt c : Nat) : Int) ∧ acc * 16 + dgt c < 18446744073709551616 ∧ pU 16 0 bs = pU 16 (acc * 16 + dgt c) (bs.drop (k + 1))) := qh ⟨by omega, by omega, hdec.trans (pU_step (by omega) hov _)⟩
     have icut : a < 1152921504606846976 := by omega
     have iov : a * 16 + (((c.toNat : Int) + 32 - 97 + 10)) < 18446744073709551616 := by omega
     clear hcut hacc ha hdec hov
     go_wp2_with (go_at_call 126; refine (lower_hex c hd0 hd1 _).mono ?_; rintro e w' ⟨rfl, rfl⟩)
     refine ⟨⟨k + 1, acc * 16 + dgt c, a * 16 + (((c.toNat : Int) + 32 - 97 + 10)), rfl, (by first | rfl | (congr 1; omega)), (by first | rfl | (congr 1; omega)), by omega, HN⟩, by simp [intOf]; omega⟩
  ·have hkk : k = t.size := by omega
   subst hkk
   have HF := qh (show pU 16 0 bs = .ok acc by rw [hdec, List.drop_eq_nil_of_le (by omega)]; rfl)
   clear hdec
   subst ha
   clear hacc a0 a1
   go_wp2
   go_ret2
   exact ⟨by rw [HF.out]; rfl, rfl⟩
end Go.Proofs.YtkemhmfdooghkaaGreatDoor.Lx
end
