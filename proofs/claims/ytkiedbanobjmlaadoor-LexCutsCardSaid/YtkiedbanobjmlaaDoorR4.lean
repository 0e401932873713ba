/- The walk of the reference's number. -/
import Derived.Test.YtkiedbanobjmlaaDoorR3
set_option linter.unusedSimpArgs false
set_option linter.unusedVariables false
namespace Go.Proofs.YtkiedbanobjmlaaDoor.Lx
open Go.RowKit
open Pl Fl

def mkNum (k v : Nat) : Tk := ⟨k, ⟨#[]⟩, v⟩
def numX (x : UInt8) (h s : List UInt8) : Option Tk :=
  if x = 72 then (valR 16 65535 h).map (mkNum 2)
  else if (valR 10 65535 s).isSome then (valR 10 65535 s).map (mkNum 2)
  else if x = 66 then (valR 8 65535 h).map (mkNum 2)
  else if x = 67 then (valR 8 255 h).map (mkNum 3) else none
attribute [local go_sem] run_store_complexL
/-- What digits and letters are. -/
def numN (s : List UInt8) : Option Tk := numX (s.getLast?.getD 0) s.dropLast s
theorem head_list (s : ByteArray) : (s.extract 0 (s.size - 1)).data.toList = s.data.toList.dropLast := by
  rw [ByteArray.data_extract, Array.toList_extract, List.extract_eq_take_drop, List.dropLast_eq_take]; simp
theorem last_list (s : ByteArray) (h : s.size - 1 < s.size) : s.data.toList.getLast? = some s[s.size - 1] := by
  rw [List.getLast?_eq_getElem?]
  have hl : s.data.toList.length - 1 < s.data.toList.length := by simp; omega
  rw [List.getElem?_eq_getElem hl]
  simp; rfl
theorem val_num (k m : Nat) : (mkNum k m).val (0, 0) (0, 0) = .agg #[.int .u8 k, .complex .f64 0 0, .complex .f64 0 0, .string ⟨#[]⟩, .int .i64 m] := by
  simp [mkNum, Tk.val, Tk.vals, C, fl_0]

set_option maxHeartbeats 3200000 in
theorem number_any (s : ByteArray) (h0 : 1 ≤ s.size) (hs : s.size ≤ 9223372036854775800) (h48 : ∀ c ∈ s.data.toList, 48 ≤ c.toNat) (w : World) :
    Calls Tryd.prog 49 #[.string s] w fun e w' => (∃ t : Tk, e = .returned (.tuple #[t.val (0, 0) (0, 0), .bool (numN s.data.toList).isSome]) ∧ (∀ t', numN s.data.toList = some t' → t = t')) ∧ Below w.heap.size w w' := by
  have hll := last_list s (by omega)
  have hx := u8_lt s[s.size - 1]
  have h48h : ∀ c ∈ (s.extract 0 (s.size - 1)).data.toList, 48 ≤ c.toNat := fun c hc => h48 c (by rw [head_list] at hc; exact List.dropLast_subset _ hc)
  have hsz : (s.extract 0 (s.size - 1)).size = s.size - 1 := by simp
  have hm1 : ((s.size : Int) - 1) = ((s.size - 1 : Nat) : Int) := by omega
  have v16 := fun w => value_any (s.extract 0 (s.size - 1)) 16 65535 (by omega) (by omega) (by omega) h48h w
  have v10 := fun w => value_any s 10 65535 (by omega) (by omega) (by omega) h48 w
  have v8 := fun w => value_any (s.extract 0 (s.size - 1)) 8 65535 (by omega) (by omega) (by omega) h48h w
  have vc := fun w => value_any (s.extract 0 (s.size - 1)) 8 255 (by omega) (by omega) (by omega) h48h w
  rw [head_list] at v16 v8 vc
  rw [show ((65535 : Nat) : Int) = 65535 from rfl] at v16 v10 v8
  rw [show ((16 : Nat) : Int) = 16 from rfl] at v16
  rw [show ((10 : Nat) : Int) = 10 from rfl] at v10
  rw [show ((8 : Nat) : Int) = 8 from rfl] at v8 vc
  rw [show ((255 : Nat) : Int) = 255 from rfl] at vc
  have V16 := Lib.hid v16
  have V10 := Lib.hid v10
  have V8 := Lib.hid v8
  have VC := Lib.hid vc
  have HNd := Lib.hid (show numN s.data.toList = numX s[s.size - 1] s.data.toList.dropLast s.data.toList by unfold numN; rw [hll]; rfl)
  clear hll h48 h48h v16 v10 v8 vc
  generalize numN s.data.toList = NN at *
  have i0 : (0 : Int) ≤ ((s.size - 1 : Nat) : Int) := by omega
  have i1 : ((s.size - 1 : Nat) : Int) < (s.size : Int) := by omega
  have hkk : s.size - 1 < s.size := by omega
  have tn : ∀ n : Nat, n < 256 → ∀ x : UInt8, x ≠ UInt8.ofNat n → ((x.toNat : Int) == (n : Int)) = false := by
    intro n hn x hx
    simp only [beq_eq_false_iff_ne, ne_eq]
    intro e
    apply hx
    apply UInt8.toNat_inj.1
    simp
    omega
  have g72 : s[s.size - 1] ≠ 72 → ((s[s.size - 1].toNat : Int) == 72) = false := tn 72 (by omega) _
  have g66 : s[s.size - 1] ≠ 66 → ((s[s.size - 1].toNat : Int) == 66) = false := tn 66 (by omega) _
  have g67 : s[s.size - 1] ≠ 67 → ((s[s.size - 1].toNat : Int) == 67) = false := tn 67 (by omega) _
  go_enter Tryd.func49, Tryd.ntmps49
  by_cases h72 : s[s.size - 1] = 72
  · have b72 : ((s[s.size - 1].toNat : Int) == 72) = true := by rw [h72]; rfl
    have HR := Lib.hid (show NN = (valR 16 65535 s.data.toList.dropLast).map (mkNum 2) by rw [HNd.out]; unfold numX; rw [if_pos h72])
    clear g72 g66 g67 HNd h72
    generalize valR 16 65535 s.data.toList.dropLast = vr at *
    go_wp2_with fail
    ((with_reducible refine (V16.out _).mono ?_); rintro e w1 ⟨⟨m, hm, rfl, hv⟩, rfl⟩)
    have HV := Lib.hid hv
    clear hv
    go_wp2
    (try simp only [Exit.inBlock, Exit.then])
    refine bodyPost_ret (tok_ret2 rfl _ _ w.heap.size _ _ _ _ _ rfl (Blk.new _ _ _)) rfl ?_
    refine ⟨⟨mkNum 2 m, by rw [val_num, HR.out]; simp, fun t' ht => ?_⟩, (Below.refl _ _).alloc (Nat.le_refl _) _⟩
    rw [HR.out] at ht
    obtain ⟨v, hv1, rfl⟩ := Option.map_eq_some_iff.1 ht
    rw [HV.out v hv1]
  · have b72 := g72 h72
    go_wp2_with fail
    ((with_reducible refine (V10.out _).mono ?_); rintro e w1 ⟨⟨m10, hm10, rfl, hv⟩, rfl⟩)
    cases hd : valR 10 65535 s.data.toList with
    | some v10 =>
      have hm := hv v10 hd
      have HR := Lib.hid (show NN = some (mkNum 2 m10) by rw [HNd.out]; unfold numX; rw [if_neg h72, hd, hm]; rfl)
      simp only [Option.isSome_some]
      clear g72 g66 g67 HNd h72 hv hd hm
      go_wp2
      (try simp only [Exit.inBlock, Exit.then])
      refine bodyPost_ret (tok_ret2 rfl _ _ w.heap.size _ _ _ _ _ rfl (Blk.new _ _ _)) rfl ?_
      exact ⟨⟨mkNum 2 m10, by rw [val_num, HR.out]; rfl, fun t' ht => by rw [HR.out] at ht; injection ht⟩, (Below.refl _ _).alloc (Nat.le_refl _) _⟩
    | none =>
      have hN : NN = if s[s.size - 1] = 66 then (valR 8 65535 s.data.toList.dropLast).map (mkNum 2) else if s[s.size - 1] = 67 then (valR 8 255 s.data.toList.dropLast).map (mkNum 3) else none := by rw [HNd.out]; unfold numX; rw [if_neg h72, hd]; rfl
      simp only [Option.isSome_none]
      clear hv hd HNd h72 g72
      by_cases h66 : s[s.size - 1] = 66
      · have b66 : ((s[s.size - 1].toNat : Int) == 66) = true := by rw [h66]; rfl
        rw [if_pos h66] at hN
        have HR := Lib.hid hN
        clear g66 g67 hN h66
        generalize valR 8 65535 s.data.toList.dropLast = vr at *
        go_wp2_with fail
        ((with_reducible refine (V8.out _).mono ?_); rintro e w1 ⟨⟨m, hm, rfl, hv⟩, rfl⟩)
        have HV := Lib.hid hv
        clear hv
        go_wp2
        (try simp only [Exit.inBlock, Exit.then])
        refine bodyPost_ret (tok_ret2 rfl _ _ w.heap.size _ _ _ _ _ rfl (Blk.new _ _ _)) rfl ?_
        refine ⟨⟨mkNum 2 m, by rw [val_num, HR.out]; simp, fun t' ht => ?_⟩, (Below.refl _ _).alloc (Nat.le_refl _) _⟩
        rw [HR.out] at ht
        obtain ⟨v, hv1, rfl⟩ := Option.map_eq_some_iff.1 ht
        rw [HV.out v hv1]
      · have b66 := g66 h66
        rw [if_neg h66] at hN
        by_cases h67 : s[s.size - 1] = 67
        · have b67 : ((s[s.size - 1].toNat : Int) == 67) = true := by rw [h67]; rfl
          rw [if_pos h67] at hN
          have HR := Lib.hid hN
          clear g66 g67 hN h66 h67
          generalize valR 8 255 s.data.toList.dropLast = vr at *
          go_wp2_with fail
          ((with_reducible refine (VC.out _).mono ?_); rintro e w1 ⟨⟨m, hm, rfl, hv⟩, rfl⟩)
          have HV := Lib.hid hv
          clear hv
          go_wp2
          (try simp only [Exit.inBlock, Exit.then])
          refine bodyPost_ret (tok_ret2 rfl _ _ w.heap.size _ _ _ _ _ rfl (Blk.new _ _ _)) rfl ?_
          refine ⟨⟨mkNum 3 m, by rw [val_num, HR.out]; simp, fun t' ht => ?_⟩, (Below.refl _ _).alloc (Nat.le_refl _) _⟩
          rw [HR.out] at ht
          obtain ⟨v, hv1, rfl⟩ := Option.map_eq_some_iff.1 ht
          rw [HV.out v hv1]
        · have b67 := g67 h67
          rw [if_neg h67] at hN
          have HR := Lib.hid hN
          clear g66 g67 hN h66 h67
          go_wp2
          (try simp only [Exit.inBlock, Exit.then])
          refine bodyPost_ret (tok_ret2 rfl _ _ w.heap.size _ _ _ _ _ rfl (Blk.new _ _ _)) rfl ?_
          exact ⟨⟨noTk, by rw [HR.out]; simp [noTk, Tk.val, Tk.vals, C, fl_0], fun t' ht => by rw [HR.out] at ht; cases ht⟩, (Below.refl _ _).alloc (Nat.le_refl _) _⟩
end Go.Proofs.YtkiedbanobjmlaaDoor.Lx
