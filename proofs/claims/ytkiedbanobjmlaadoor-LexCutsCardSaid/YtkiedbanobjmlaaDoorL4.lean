/- The walks of the program's name, text, symbol. -/
import Derived.Test.YtkiedbanobjmlaaDoorL3
import Derived.Lib.SlicesS
set_option linter.unusedSimpArgs false
set_option linter.unusedVariables false
namespace Go.Proofs.YtkiedbanobjmlaaDoor.Lx
open Go.RowKit
open Pl Fl
attribute [local go_sem] run_store_complexL

/-- What a scanner of one token hands back: the token and how many bytes; or an error, and whatever token, whatever number of bytes of the text. -/
def tokEnd (s : List UInt8) (r : Except Nat (Tk × Nat)) (e : Ending) : Prop := match r with
  | .ok (t, n) => e = .returned (.tuple #[t.val (0, 0) (0, 0), .int .i64 n, .int .i64 0])
  | .error k => ∃ (t : Tk) (n : Nat), n ≤ s.length ∧ e = .returned (.tuple #[t.val (0, 0) (0, 0), .int .i64 n, .int .i64 k])
theorem tok_vals0 (k : Nat) (t : ByteArray) (n : Int) : (Tk.mk k t n).val (0, 0) (0, 0) = .agg #[.int .u8 k, .complex .f64 0 0, .complex .f64 0 0, .string t, .int .i64 n] := by
  simp [Tk.val, Tk.vals, C, fl_0]
set_option maxRecDepth 100000 in
set_option maxHeartbeats 6400000 in
theorem name_any (s : ByteArray) (h0 : 0 < s.size) (hs : s.size ≤ 9223372036854775800) (hc : isL s[0] = true) {w : World} (E : EnvS w) :
    Calls Tryd.prog 61 #[.string s] w fun e w' => tokEnd s.data.toList (oneN s.data.toList) e ∧ Below w.heap.size w w' := by
  have HR := Lib.hid (run_part s hs)
  have HLE := runN_le isP s.data.toList
  have HE1 : ∀ k, runN isP s.data.toList = k → 32 < k → oneN s.data.toList = .error 5 := fun k hk h32 => by
    unfold oneN; rw [head_at s h0]; simp only [Option.getD_some, hc, if_true]; rw [hk, if_pos h32]
  have HE2 : ∀ k, runN isP s.data.toList = k → ¬ 32 < k → ∀ b, isW (s.extract 0 k) = b → oneN s.data.toList = .ok (⟨if b then 6 else 1, s.extract 0 k, 0⟩, k) := fun k hk h32 b hb => by
    unfold oneN; rw [head_at s h0]; simp only [Option.getD_some, hc, if_true]; rw [hk, if_neg h32, ← ext_take, hb]
  have HE1' := Lib.hid HE1
  have HE2' := Lib.hid HE2
  have HEn := Lib.hid E
  clear HE1 HE2 E
  go_enter Tryd.func61, Tryd.ntmps61
  go_wp2_with fail
  ((with_reducible refine (HR.out _).mono ?_); rintro e w1 ⟨rfl, rfl⟩)
  have hls : s.data.toList.length = s.size := by simp
  rw [hls] at HLE
  generalize hk : runN isP s.data.toList = k at *
  have x0 : (0 : Int) ≤ (k : Int) := by omega
  have x2 : (k : Int) ≤ (s.size : Int) := by omega
  clear hk HR
  by_cases h32 : 32 < k
  · have HE := Lib.hid (HE1'.out k rfl h32)
    have h32' : (32 : Int) < (k : Int) := by omega
    clear HE1' HE2'
    go_wp2
    (try simp only [Exit.inBlock, Exit.then])
    refine bodyPost_ret (tok_ret3 rfl _ _ w.heap.size _ _ _ _ _ rfl ((Blk.new _ _ _).alloc _)) rfl ?_
    refine ⟨?_, ((Below.refl _ _).alloc (Nat.le_refl _) _).alloc (by simp) _⟩
    rw [HE.out]
    exact ⟨⟨1, s.extract 0 k, 0⟩, k, by rw [hls]; exact HLE, by rw [tok_vals0]; rfl⟩
  · have HE := Lib.hid (HE2'.out k rfl h32)
    have h32' : ¬ (32 : Int) < (k : Int) := by omega
    have HW := Lib.hid (fun (w' : World) (E' : EnvS w') => Word_any (s.extract 0 k) (by simp; omega) E')
    clear HE1' HE2'
    go_wp2_with fail
    ((with_reducible refine (HW.out _ (HEn.out.below (Nat.le_refl _) (((Below.refl _ _).alloc (Nat.le_refl _) _).alloc (by simp) _))).mono ?_); rintro e w1 ⟨rfl, hw⟩)
    have hw2 := hw.symm
    subst hw2
    clear hw
    cases hw : isW (s.extract 0 k)
    all_goals
      have HE3 := Lib.hid (HE.out _ hw)
      go_wp2
      (try simp only [Exit.inBlock, Exit.then])
      refine bodyPost_ret (tok_ret3 rfl _ _ w.heap.size _ _ _ _ _ rfl ((Blk.new _ _ _).alloc _)) rfl ?_
      refine ⟨?_, ((Below.refl _ _).alloc (Nat.le_refl _) _).alloc (by simp) _⟩
      rw [HE3.out]
      simp [tokEnd, tok_vals0]
theorem drop1_isQ (c : UInt8) : (fun x => x != c && x != 10) = isQ c := rfl
set_option maxRecDepth 100000 in
set_option maxHeartbeats 6400000 in
theorem text_any (s : ByteArray) (h0 : 0 < s.size) (hs : s.size ≤ 9223372036854775800) (hl : isL s[0] = false) (hd : isD s[0] = false) (hq : s[0] = 34 ∨ s[0] = 39) (w : World) :
    Calls Tryd.prog 63 #[.string s] w fun e w' => tokEnd s.data.toList (oneN s.data.toList) e ∧ Below w.heap.size w w' := by
  have HQ := Lib.hid (one_quote s h0 hl hd hq)
  have HR := Lib.hid (fun (w' : World) (hg : w'.cell? ⟨w.heap.size, 0, none⟩ = some (.string s)) => run_text h0 w.heap.size (s.extract 1 s.size) (by simp; omega) w' hg)
  have HE := Lib.hid (ext_drop s 1)
  have HLE := Lib.hid (runN_le (isQ s[0]) (s.data.toList.drop 1))
  have x1 : (1 : Int) ≤ (s.size : Int) := by omega
  go_enter Tryd.func63, Tryd.ntmps63
  go_wp2_with fail
  ((with_reducible refine (HR.out _ ?_).mono ?_))
  · simp
  rintro e w1 ⟨rfl, rfl⟩
  rw [HE.out]
  have hdl : (s.data.toList.drop 1).length = s.size - 1 := by simp
  have hls : s.data.toList.length = s.size := by simp
  rw [hdl] at HLE
  clear HR HE hdl
  have HQ2 := Lib.hid (fun k (h1 : 1 ≤ k) h2 => HQ.out k h1 h2)
  clear HQ
  obtain ⟨m, hm⟩ : ∃ m, m = runN (isQ s[0]) (s.data.toList.drop 1) := ⟨_, rfl⟩
  rw [← hm] at HLE ⊢
  obtain ⟨k, hk⟩ : ∃ k, k = m + 1 := ⟨_, rfl⟩
  have HQ3 := Lib.hid (HQ2.out k (by omega) (by rw [← hm]; omega))
  have hmk : m = k - 1 := by omega
  have hk1 : 1 ≤ k := by omega
  have hkl : k ≤ s.size := by have := HLE.out; omega
  clear HQ2 hm hk HLE
  subst hmk
  have hsum : 1 + ((k - 1 : Nat) : Int) = (k : Nat) := by omega
  have y0 : (0 : Int) ≤ (k : Int) := by omega
  have y1 : (1 : Int) ≤ (k : Int) := by omega
  have y2 : (k : Int) ≤ (s.size : Int) := by omega
  by_cases hks : k < s.size
  · have y3 : (k : Int) < (s.size : Int) := by omega
    have z1 : ((k : Int) == (s.size : Int)) = false := by simp only [beq_eq_false_iff_ne, ne_eq]; omega
    have HA : Hid (s.data.toList[k]? = some s[k]) := Lib.hid (by have := congrArg List.head? (drop_cons s k hks); rw [List.head?_drop] at this; rw [this]; rfl)
    by_cases h10 : s[k] = 10
    · have z2 : ((s[k].toNat : Int) == 10) = true := by rw [h10]; rfl
      have HN := Lib.hid (HQ3.out.1 (.inr (by rw [HA.out, h10])))
      clear HQ3 h10
      go_wp2
      (try simp only [Exit.inBlock, Exit.then])
      refine bodyPost_ret (tok_ret3 rfl _ _ (w.heap.size + 1) _ _ _ _ _ rfl (by have := Blk.new (w.alloc (.cells #[.string s] 9)) 35 #[.int .u8 0, .complex .f64 0 0, .complex .f64 0 0, .string ⟨#[]⟩, .int .i64 0]; rwa [World.size_alloc] at this)) rfl ?_
      refine ⟨?_, ((Below.refl _ _).alloc (Nat.le_refl _) _).alloc (by simp) _⟩
      rw [HN.out]
      exact ⟨⟨0, ⟨#[]⟩, 0⟩, k, by rw [hls]; exact hkl, by rw [tok_vals0]; rfl⟩
    · have z2 : ((s[k].toNat : Int) == 10) = false := by
        simp only [beq_eq_false_iff_ne, ne_eq]
        exact fun e => h10 (UInt8.toNat_inj.1 (by rw [show (10 : UInt8).toNat = 10 from rfl]; omega))
      have HN := Lib.hid (HQ3.out.2 (by rw [HA.out]; simp; exact h10))
      clear HQ3 h10
      go_wp2
      (try simp only [Exit.inBlock, Exit.then])
      refine bodyPost_ret (tok_ret3 rfl _ _ (w.heap.size + 1) _ _ _ _ _ rfl (by have := Blk.new (w.alloc (.cells #[.string s] 9)) 35 #[.int .u8 4, .complex .f64 0 0, .complex .f64 0 0, .string (s.extract 1 k), .int .i64 0]; rwa [World.size_alloc] at this)) rfl ?_
      refine ⟨?_, ((Below.refl _ _).alloc (Nat.le_refl _) _).alloc (by simp) _⟩
      rw [HN.out]
      simp [tokEnd, tok_vals0]
  · have hke : k = s.size := by omega
    have z1 : ((k : Int) == (s.size : Int)) = true := by simp [hke]
    have HN := Lib.hid (HQ3.out.1 (.inl (List.getElem?_eq_none (by rw [hls]; omega))))
    clear HQ3 hke
    go_wp2
    (try simp only [Exit.inBlock, Exit.then])
    refine bodyPost_ret (tok_ret3 rfl _ _ (w.heap.size + 1) _ _ _ _ _ rfl (by have := Blk.new (w.alloc (.cells #[.string s] 9)) 35 #[.int .u8 0, .complex .f64 0 0, .complex .f64 0 0, .string ⟨#[]⟩, .int .i64 0]; rwa [World.size_alloc] at this)) rfl ?_
    refine ⟨?_, ((Below.refl _ _).alloc (Nat.le_refl _) _).alloc (by simp) _⟩
    rw [HN.out]
    exact ⟨⟨0, ⟨#[]⟩, 0⟩, k, by rw [hls]; exact hkl, by rw [tok_vals0]; rfl⟩
theorem contains_two (x : ByteArray) : Lib.containsS twos x = twos.any (fun y => y.data.toList == x.data.toList) := by
  rw [Bool.eq_iff_iff, Lib.containsS_iff, List.any_eq_true]
  exact ⟨fun h => ⟨x, h, by simp⟩, fun ⟨y, h1, h2⟩ => by rw [← bytes_ext (eq_of_beq h2)]; exact h1⟩
theorem symN_of (s : ByteArray) (h0 : 0 < s.size) : symN s.data.toList = if twos.any (fun y => y.data.toList == s.data.toList.take 2) then 2 else if ones.contains s[0] then 1 else 0 := by
  unfold symN
  rw [head_at s h0]
  congr 1
theorem ext_one (s : ByteArray) (h0 : 0 < s.size) : s.extract 0 1 = ⟨#[s[0]]⟩ := by
  apply bytes_ext
  rw [take_data]
  have := drop_cons s 0 h0
  rw [List.drop_zero] at this
  rw [this]
  rfl
theorem twos_not1 (x : ByteArray) (h : x.data.toList.length < 2) : twos.any (fun y => y.data.toList == x.data.toList) = false := by
  rw [List.any_eq_false]
  intro y hy e
  have := congrArg List.length (eq_of_beq e)
  have := twos_size y hy
  omega
theorem cell_top {W : World} {cs : Array Value} {t : TypeId} {b : Nat} (hb : b = W.heap.size) (j : Nat) : (W.alloc (.cells cs t)).cell? ⟨b, j, none⟩ = cs[j]? := by
  subst hb; exact cell_of_row _ _ _ _ _ _ (heap_alloc_new W _)
set_option maxRecDepth 100000 in
set_option maxHeartbeats 6400000 in
theorem symbol_anyP (s : ByteArray) (h0 : 0 < s.size) (hs : s.size ≤ 9223372036854775800) (hl : isL s[0] = false) (hd : isD s[0] = false) (hq : ¬ (s[0] = 34 ∨ s[0] = 39)) (w : World) :
    Calls Tryd.prog 64 #[.string s] w fun e w' => tokEnd s.data.toList (oneN s.data.toList) e ∧ Below w.heap.size w w' := by
  have hone : oneN s.data.toList = if symN s.data.toList = 0 then .error 40 else .ok (plainT (bt (s.data.toList.take (symN s.data.toList))), symN s.data.toList) := by
    unfold oneN
    rw [head_at s h0]
    simp only [Option.getD_some, hl, hd, hq, Bool.false_eq_true, if_false]
  have HO := Lib.hid hone
  have HSY := Lib.hid (symN_of s h0)
  have hcc := fun (w' : World) => Tryd.strings_Contains_one onesB s[0] w'
  rw [← ext_one s h0] at hcc
  unfold onesB at hcc
  have HC := Lib.hid hcc
  have HTW := Lib.hid (fun (b : Nat) (w' : World) (hc : ∀ j, j < twos.length → w'.cell? ⟨b, 0 + j, none⟩ = some (.string (twos.getD j ByteArray.empty))) => Tryd.slices_Contains_string b 0 5 5 twos (s.extract 0 2) w' (by decide) (by decide) hc)
  have x1 : (1 : Int) ≤ (s.size : Int) := by omega
  clear hone hcc
  go_enter Tryd.func64, Tryd.ntmps64
  by_cases h2 : 1 < s.size
  · have x2 : (1 : Int) < (s.size : Int) := by omega
    have x3 : (2 : Int) ≤ (s.size : Int) := by omega
    have HE := Lib.hid (show Lib.containsS (twos.take 5) (s.extract 0 2) = twos.any (fun y => y.data.toList == s.data.toList.take 2) by
      rw [show twos.take 5 = twos from rfl, contains_two, take_data])
    go_wp2_with fail
    ((with_reducible refine (HTW.out _ _ ?_).mono ?_))
    · intro j hj
      rw [cell_top (by simp)]
      rcases j with _ | _ | _ | _ | _ | j
      · rfl
      · rfl
      · rfl
      · rfl
      · rfl
      · exact absurd hj (by show ¬ _ < 5; omega)
    rintro e w1 ⟨rfl, hw⟩
    have hw2 := hw.symm
    subst hw2
    clear hw
    rw [HE.out]
    cases htw : twos.any (fun y => y.data.toList == s.data.toList.take 2)
    case' true =>
      have HN := Lib.hid (show symN s.data.toList = 2 by rw [HSY.out, htw]; rfl)
      clear HTW HE htw HC
      have hT : (s.extract 0 2).toList = (s.extract 0 2).data.toList := ByteArray.toList_eq _
      have HO2 := Lib.hid (show oneN s.data.toList = .ok (plainT (s.extract 0 2), 2) by rw [HO.out, HN.out, ← ext_take]; rfl)
      clear HO HN HSY
      by_cases h1 : (s.extract 0 2).data.toList = [60, 62]
      · have b0 : ((s.extract 0 2).toList == [60, 62]) = true := by rw [hT, h1]; rfl
        have HP := Lib.hid (show plainT (s.extract 0 2) = ⟨5, ⟨#[35]⟩, 0⟩ by unfold plainT; rw [if_pos h1])
        clear hT h1
        go_wp2
        (try simp only [Exit.inBlock, Exit.then])
        refine bodyPost_ret (tok_ret3 rfl _ _ w.heap.size _ _ _ _ _ rfl (((Blk.new _ _ _).alloc _).alloc _)) rfl ?_
        refine ⟨?_, (((Below.refl _ _).alloc (Nat.le_refl _) _).alloc (by simp) _).alloc (by simp; omega) _⟩
        rw [HO2.out, HP.out]
        simp [tokEnd, tok_vals0]
      have b0 : ((s.extract 0 2).toList == [60, 62]) = false := by rw [hT]; simpa using h1
      by_cases h2 : (s.extract 0 2).data.toList = [38]
      · have b1 : ((s.extract 0 2).toList == [38]) = true := by rw [hT, h2]; rfl
        have HP := Lib.hid (show plainT (s.extract 0 2) = ⟨6, ⟨#[65, 78, 68]⟩, 0⟩ by unfold plainT; rw [if_neg h1, if_pos h2])
        clear hT h1 h2
        go_wp2
        (try simp only [Exit.inBlock, Exit.then])
        refine bodyPost_ret (tok_ret3 rfl _ _ w.heap.size _ _ _ _ _ rfl (((Blk.new _ _ _).alloc _).alloc _)) rfl ?_
        refine ⟨?_, (((Below.refl _ _).alloc (Nat.le_refl _) _).alloc (by simp) _).alloc (by simp; omega) _⟩
        rw [HO2.out, HP.out]
        simp [tokEnd, tok_vals0]
      have b1 : ((s.extract 0 2).toList == [38]) = false := by rw [hT]; simpa using h2
      by_cases h3 : (s.extract 0 2).data.toList = [126]
      · have b2 : ((s.extract 0 2).toList == [126]) = true := by rw [hT, h3]; rfl
        have HP := Lib.hid (show plainT (s.extract 0 2) = ⟨6, ⟨#[78, 79, 84]⟩, 0⟩ by unfold plainT; rw [if_neg h1, if_neg h2, if_pos h3])
        clear hT h1 h2 h3
        go_wp2
        (try simp only [Exit.inBlock, Exit.then])
        refine bodyPost_ret (tok_ret3 rfl _ _ w.heap.size _ _ _ _ _ rfl (((Blk.new _ _ _).alloc _).alloc _)) rfl ?_
        refine ⟨?_, (((Below.refl _ _).alloc (Nat.le_refl _) _).alloc (by simp) _).alloc (by simp; omega) _⟩
        rw [HO2.out, HP.out]
        simp [tokEnd, tok_vals0]
      have b2 : ((s.extract 0 2).toList == [126]) = false := by rw [hT]; simpa using h3
      have HP := Lib.hid (show plainT (s.extract 0 2) = ⟨5, s.extract 0 2, 0⟩ by unfold plainT; rw [if_neg h1, if_neg h2, if_neg h3])
      clear hT h1 h2 h3
      go_wp2
      (try simp only [Exit.inBlock, Exit.then])
      refine bodyPost_ret (tok_ret3 rfl _ _ w.heap.size _ _ _ _ _ rfl (((Blk.new _ _ _).alloc _).alloc _)) rfl ?_
      refine ⟨?_, (((Below.refl _ _).alloc (Nat.le_refl _) _).alloc (by simp) _).alloc (by simp; omega) _⟩
      rw [HO2.out, HP.out]
      simp [tokEnd, tok_vals0]
    case' false =>
      have HTF := Lib.hid htw
      clear HE htw
      go_wp2_with fail
      ((with_reducible refine (HC.out _).mono ?_); rintro e w2 ⟨rfl, hw⟩)
      have hw2 := hw.symm
      subst hw2
      clear hw
      rw [indexByte_nonneg, show ([43, 45, 42, 47, 126, 46, 44, 59, 40, 91, 123, 94, 61, 35, 60, 62, 58, 41, 93, 125, 124, 38] : List UInt8) = ones from rfl]
      cases hin : ones.contains s[0]
      · have HN := Lib.hid (show oneN s.data.toList = .error 40 by rw [HO.out, HSY.out, HTF.out, hin]; rfl)
        clear HO HSY HTF hin HTW
        go_wp2
        (try simp only [Exit.inBlock, Exit.then])
        refine bodyPost_ret (tok_ret3 rfl _ _ w.heap.size _ _ _ _ _ rfl (((Blk.new _ _ _).alloc _).alloc _)) rfl ?_
        refine ⟨?_, (((Below.refl _ _).alloc (Nat.le_refl _) _).alloc (by simp) _).alloc (by simp; omega) _⟩
        rw [HN.out]
        exact ⟨⟨5, ⟨#[]⟩, 0⟩, 0, Nat.zero_le _, by rw [tok_vals0]; rfl⟩
      have HN := Lib.hid (show symN s.data.toList = 1 by rw [HSY.out, HTF.out, hin]; rfl)
      clear HTF hin HTW
      have hT : (s.extract 0 1).toList = (s.extract 0 1).data.toList := ByteArray.toList_eq _
      have HO2 := Lib.hid (show oneN s.data.toList = .ok (plainT (s.extract 0 1), 1) by rw [HO.out, HN.out, ← ext_take]; rfl)
      clear HO HN HSY
      by_cases h1 : (s.extract 0 1).data.toList = [60, 62]
      · have b0 : ((s.extract 0 1).toList == [60, 62]) = true := by rw [hT, h1]; rfl
        have HP := Lib.hid (show plainT (s.extract 0 1) = ⟨5, ⟨#[35]⟩, 0⟩ by unfold plainT; rw [if_pos h1])
        clear hT h1
        go_wp2
        (try simp only [Exit.inBlock, Exit.then])
        refine bodyPost_ret (tok_ret3 rfl _ _ w.heap.size _ _ _ _ _ rfl (((Blk.new _ _ _).alloc _).alloc _)) rfl ?_
        refine ⟨?_, (((Below.refl _ _).alloc (Nat.le_refl _) _).alloc (by simp) _).alloc (by simp; omega) _⟩
        rw [HO2.out, HP.out]
        simp [tokEnd, tok_vals0]
      have b0 : ((s.extract 0 1).toList == [60, 62]) = false := by rw [hT]; simpa using h1
      by_cases h2 : (s.extract 0 1).data.toList = [38]
      · have b1 : ((s.extract 0 1).toList == [38]) = true := by rw [hT, h2]; rfl
        have HP := Lib.hid (show plainT (s.extract 0 1) = ⟨6, ⟨#[65, 78, 68]⟩, 0⟩ by unfold plainT; rw [if_neg h1, if_pos h2])
        clear hT h1 h2
        go_wp2
        (try simp only [Exit.inBlock, Exit.then])
        refine bodyPost_ret (tok_ret3 rfl _ _ w.heap.size _ _ _ _ _ rfl (((Blk.new _ _ _).alloc _).alloc _)) rfl ?_
        refine ⟨?_, (((Below.refl _ _).alloc (Nat.le_refl _) _).alloc (by simp) _).alloc (by simp; omega) _⟩
        rw [HO2.out, HP.out]
        simp [tokEnd, tok_vals0]
      have b1 : ((s.extract 0 1).toList == [38]) = false := by rw [hT]; simpa using h2
      by_cases h3 : (s.extract 0 1).data.toList = [126]
      · have b2 : ((s.extract 0 1).toList == [126]) = true := by rw [hT, h3]; rfl
        have HP := Lib.hid (show plainT (s.extract 0 1) = ⟨6, ⟨#[78, 79, 84]⟩, 0⟩ by unfold plainT; rw [if_neg h1, if_neg h2, if_pos h3])
        clear hT h1 h2 h3
        go_wp2
        (try simp only [Exit.inBlock, Exit.then])
        refine bodyPost_ret (tok_ret3 rfl _ _ w.heap.size _ _ _ _ _ rfl (((Blk.new _ _ _).alloc _).alloc _)) rfl ?_
        refine ⟨?_, (((Below.refl _ _).alloc (Nat.le_refl _) _).alloc (by simp) _).alloc (by simp; omega) _⟩
        rw [HO2.out, HP.out]
        simp [tokEnd, tok_vals0]
      have b2 : ((s.extract 0 1).toList == [126]) = false := by rw [hT]; simpa using h3
      have HP := Lib.hid (show plainT (s.extract 0 1) = ⟨5, s.extract 0 1, 0⟩ by unfold plainT; rw [if_neg h1, if_neg h2, if_neg h3])
      clear hT h1 h2 h3
      go_wp2
      (try simp only [Exit.inBlock, Exit.then])
      refine bodyPost_ret (tok_ret3 rfl _ _ w.heap.size _ _ _ _ _ rfl (((Blk.new _ _ _).alloc _).alloc _)) rfl ?_
      refine ⟨?_, (((Below.refl _ _).alloc (Nat.le_refl _) _).alloc (by simp) _).alloc (by simp; omega) _⟩
      rw [HO2.out, HP.out]
      simp [tokEnd, tok_vals0]
  · have x2 : ¬ (1 : Int) < (s.size : Int) := by omega
    have x4 : decide ((1 : Int) < (s.size : Int)) = false := decide_eq_false x2
    have HTF := Lib.hid (show twos.any (fun y => y.data.toList == s.data.toList.take 2) = false by
      have hh : s.data.toList.take 2 = s.data.toList := List.take_of_length_le (by simp; omega)
      rw [hh]
      exact twos_not1 s (by simp; omega))
    go_wp2_with fail
    ((with_reducible refine (HC.out _).mono ?_); rintro e w2 ⟨rfl, hw⟩)
    have hw2 := hw.symm
    subst hw2
    clear hw
    rw [indexByte_nonneg, show ([43, 45, 42, 47, 126, 46, 44, 59, 40, 91, 123, 94, 61, 35, 60, 62, 58, 41, 93, 125, 124, 38] : List UInt8) = ones from rfl]
    cases hin : ones.contains s[0]
    · have HN := Lib.hid (show oneN s.data.toList = .error 40 by rw [HO.out, HSY.out, HTF.out, hin]; rfl)
      clear HO HSY HTF hin HTW
      go_wp2
      (try simp only [Exit.inBlock, Exit.then])
      refine bodyPost_ret (tok_ret3 rfl _ _ w.heap.size _ _ _ _ _ rfl ((Blk.new _ _ _).alloc _)) rfl ?_
      refine ⟨?_, ((Below.refl _ _).alloc (Nat.le_refl _) _).alloc (by simp) _⟩
      rw [HN.out]
      exact ⟨⟨5, ⟨#[]⟩, 0⟩, 0, Nat.zero_le _, by rw [tok_vals0]; rfl⟩
    have HN := Lib.hid (show symN s.data.toList = 1 by rw [HSY.out, HTF.out, hin]; rfl)
    clear HTF hin HTW
    have hT : (s.extract 0 1).toList = (s.extract 0 1).data.toList := ByteArray.toList_eq _
    have HO2 := Lib.hid (show oneN s.data.toList = .ok (plainT (s.extract 0 1), 1) by rw [HO.out, HN.out, ← ext_take]; rfl)
    clear HO HN HSY
    by_cases h1 : (s.extract 0 1).data.toList = [60, 62]
    · have b0 : ((s.extract 0 1).toList == [60, 62]) = true := by rw [hT, h1]; rfl
      have HP := Lib.hid (show plainT (s.extract 0 1) = ⟨5, ⟨#[35]⟩, 0⟩ by unfold plainT; rw [if_pos h1])
      clear hT h1
      go_wp2
      (try simp only [Exit.inBlock, Exit.then])
      refine bodyPost_ret (tok_ret3 rfl _ _ w.heap.size _ _ _ _ _ rfl ((Blk.new _ _ _).alloc _)) rfl ?_
      refine ⟨?_, ((Below.refl _ _).alloc (Nat.le_refl _) _).alloc (by simp) _⟩
      rw [HO2.out, HP.out]
      simp [tokEnd, tok_vals0]
    have b0 : ((s.extract 0 1).toList == [60, 62]) = false := by rw [hT]; simpa using h1
    by_cases h2 : (s.extract 0 1).data.toList = [38]
    · have b1 : ((s.extract 0 1).toList == [38]) = true := by rw [hT, h2]; rfl
      have HP := Lib.hid (show plainT (s.extract 0 1) = ⟨6, ⟨#[65, 78, 68]⟩, 0⟩ by unfold plainT; rw [if_neg h1, if_pos h2])
      clear hT h1 h2
      go_wp2
      (try simp only [Exit.inBlock, Exit.then])
      refine bodyPost_ret (tok_ret3 rfl _ _ w.heap.size _ _ _ _ _ rfl ((Blk.new _ _ _).alloc _)) rfl ?_
      refine ⟨?_, ((Below.refl _ _).alloc (Nat.le_refl _) _).alloc (by simp) _⟩
      rw [HO2.out, HP.out]
      simp [tokEnd, tok_vals0]
    have b1 : ((s.extract 0 1).toList == [38]) = false := by rw [hT]; simpa using h2
    by_cases h3 : (s.extract 0 1).data.toList = [126]
    · have b2 : ((s.extract 0 1).toList == [126]) = true := by rw [hT, h3]; rfl
      have HP := Lib.hid (show plainT (s.extract 0 1) = ⟨6, ⟨#[78, 79, 84]⟩, 0⟩ by unfold plainT; rw [if_neg h1, if_neg h2, if_pos h3])
      clear hT h1 h2 h3
      go_wp2
      (try simp only [Exit.inBlock, Exit.then])
      refine bodyPost_ret (tok_ret3 rfl _ _ w.heap.size _ _ _ _ _ rfl ((Blk.new _ _ _).alloc _)) rfl ?_
      refine ⟨?_, ((Below.refl _ _).alloc (Nat.le_refl _) _).alloc (by simp) _⟩
      rw [HO2.out, HP.out]
      simp [tokEnd, tok_vals0]
    have b2 : ((s.extract 0 1).toList == [126]) = false := by rw [hT]; simpa using h3
    have HP := Lib.hid (show plainT (s.extract 0 1) = ⟨5, s.extract 0 1, 0⟩ by unfold plainT; rw [if_neg h1, if_neg h2, if_neg h3])
    clear hT h1 h2 h3
    go_wp2
    (try simp only [Exit.inBlock, Exit.then])
    refine bodyPost_ret (tok_ret3 rfl _ _ w.heap.size _ _ _ _ _ rfl ((Blk.new _ _ _).alloc _)) rfl ?_
    refine ⟨?_, ((Below.refl _ _).alloc (Nat.le_refl _) _).alloc (by simp) _⟩
    rw [HO2.out, HP.out]
    simp [tokEnd, tok_vals0]
end Go.Proofs.YtkiedbanobjmlaaDoor.Lx
