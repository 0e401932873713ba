/- The walk of the law PlacePlain. -/
import Derived.Test.YtpomnihgimgpdaaDoorL2
set_option linter.unusedSimpArgs false
set_option linter.unusedVariables false
namespace Go.Proofs.YtpomnihgimgpdaaDoor.Pl
open Go.RowKit
open Fl
open Num

/-- Behind answers this. -/
def BehIs (p : Nat × Nat) (s : ByteArray) (q : Nat × Nat) : Prop := ∀ w : World, Calls Tryd.prog 17 #[C p, .string s] w fun e w' => e = .returned (C q) ∧ w = w'
theorem beh_is {p q : Nat × Nat} {s : ByteArray} (h1 : p.1 < 2147483648) (h2 : p.2 < 2147483648) (hs : s.size ≤ 9223372036854775806) (h : behN p s.data.toList = q) : BehIs p s q := fun w => by
  subst h; exact Behind_any p s w h1 h2 hs
theorem ofN_mk2 (a b : Nat) (ha : a ≤ 100000) (hb : b ≤ 100000) (h1 : 1 ≤ a) (h2 : 1 ≤ b) : ofN (a : Int) (b : Int) = (a, b) := by
  rw [ofN_in (isR_mk (by omega) (by omega) (by omega) (by omega))]; rfl

set_option maxHeartbeats 3200000 in
theorem plain_end (a b n : Nat) (s : ByteArray) (w : World) (ha : a < 65536) (hb : b < 65536) (hle : s.size ≤ 4096) (hn : n ≤ s.size) (h : behN (a + 1, b + 1) (s.data.toList.take n) = (a + 1, b + 1 + n)) :
    BehIs (a + 1, b + 1) (s.extract 0 n) (a + 1, b + 1 + n) ∧ BehIs (a + 1, b + 1) (s.extract 0 n ++ ⟨#[10]⟩) (a + 2, 1) ∧ BehIs (a + 1, b + 1) ⟨#[]⟩ (a + 1, b + 1) := by
  have hN : isN (a + 1, b + 1) = true := isN_mk (by omega) (by omega) (by omega) (by omega)
  have hM : isN (a + 1, b + 1 + n) = true := isN_mk (by omega) (by omega) (by omega) (by omega)
  have hsz := ext_to_size s n
  refine ⟨beh_is (by simp; omega) (by simp; omega) (by omega) (by rw [ext_to, h]), beh_is (by simp; omega) (by simp; omega) (by rw [ByteArray.size_append]; show _ + 1 ≤ _; omega) ?_, beh_is (by simp; omega) (by simp; omega) (by decide) (by simp [behN, hN])⟩
  have hd : (s.extract 0 n ++ ⟨#[10]⟩ : ByteArray).data.toList = s.data.toList.take n ++ [10] := by
    rw [ByteArray.data_append, Array.toList_append, ext_to]
  rw [hd, behN_app, h]
  have hst : stepN (a + 1, b + 1 + n) 10 = (a + 2, 1) := rfl
  rw [behN_1 (by rw [hst]; exact isN_mk (by omega) (by omega) (by omega) (by omega)) hM, hst]

set_option maxHeartbeats 3200000 in
theorem plain_any (a b : Nat) (s : ByteArray) (w : World) (ha : a < 65536) (hb : b < 65536) (hs : s.size ≤ 9223372036854775807) (ht : Tabs w) :
    Calls Tryd.prog 6 #[.int .u16 a, .int .u16 b, .string s] w fun e w' => e = .returned (.bool true) ∧ Below w.heap.size w w' := by
  have HT := Lib.hid ht
  clear ht
  by_cases hv : 4096 < s.size
  · have hh := fun w' => heavy_any s w' hs
    rw [show decide (4096 < s.size) = true by simpa using hv] at hh
    have HH := Lib.hid hh
    clear hh hv
    go_enter Tryd.func6, Tryd.ntmps6
    go_wp2_with fail
    ((with_reducible refine (HH.out _).mono ?_); rintro e w' ⟨rfl, rfl⟩)
    go_wp2_with fail
    ((with_reducible refine (works_any _ HT.out).mono ?_); rintro e x1 ⟨rfl, g1⟩)
    go_wp2
    go_ret
    exact ⟨rfl, g1⟩
  · have hh := fun w' => heavy_any s w' hs
    rw [show decide (4096 < s.size) = false by simpa using hv] at hh
    have HH := Lib.hid hh
    clear hh
    have hle : s.size ≤ 4096 := by omega
    clear hv
    have o1 := (of_is (ofN_mk a b ha hb) : OfIs ((a : Int) + 1) ((b : Int) + 1) (a + 1, b + 1))
    have o2 := fun k (hk : k ≤ s.size) => (of_is (by rw [show (a : Int) + 1 = ((a + 1 : Nat) : Int) from rfl, show (b : Int) + 1 + (k : Int) = ((b + 1 + k : Nat) : Int) from rfl]; exact ofN_mk2 _ _ (by omega) (by omega) (by omega) (by omega)) : OfIs ((a : Int) + 1) ((b : Int) + 1 + (k : Int)) (a + 1, b + 1 + k))
    have o3 := (of_is (by rw [show (a : Int) + 2 = ((a + 2 : Nat) : Int) from rfl]; exact ofN_mk2 (a + 2) 1 (by omega) (by omega) (by omega) (by omega)) : OfIs ((a : Int) + 2) 1 (a + 2, 1))
    unfold OfIs C at o1 o2 o3
    simp only at o1 o2 o3
    have O1 := Lib.hid o1
    have O2 := Lib.hid o2
    have O3 := Lib.hid o3
    clear o1 o2 o3
    go_enter Tryd.func6, Tryd.ntmps6
    go_wp2_with fail
    ((with_reducible refine (HH.out _).mono ?_); rintro e w' ⟨rfl, rfl⟩)
    go_wp2_with fail
    ((with_reducible refine (O1.out _).mono ?_); rintro e w' ⟨rfl, rfl⟩)
    go_wp2
    go_loop [8] (fun i => ∃ k : Nat, k ≤ s.size ∧ i = .int .i64 k ∧ Hid (behN (a + 1, b + 1) (s.data.toList.take k) = (a + 1, b + 1 + k))) (fun i => s.size - (intOf i).toNat)
    case atStart => exact ⟨0, Nat.zero_le _, rfl, Lib.hid (by simp [behN]; exact isN_mk (by omega) (by omega) (by omega) (by omega))⟩
    case round =>
      obtain ⟨k, hk, rfl, HB⟩ := hrel
      by_cases hlt : k < s.size ∧ s[k]!.toNat ≠ 10
      · obtain ⟨hlt, hc⟩ := hlt
        rw [getElem!_pos s k hlt] at hc
        have hst : behN (a + 1, b + 1) (s.data.toList.take (k + 1)) = (a + 1, b + 1 + (k + 1)) := by
          rw [take_snoc s k hlt, behN_app, HB.out]
          have h1 : stepN (a + 1, b + 1 + k) s[k] = (a + 1, b + 1 + (k + 1)) := by unfold stepN; rw [if_neg hc]; rfl
          rw [behN_1 (by rw [h1]; exact isN_mk (by omega) (by omega) (by omega) (by omega)) (isN_mk (by omega) (by omega) (by omega) (by omega)), h1]
        have HS := Lib.hid hst
        have hcb : ((s[k].toNat : Int) != 10) = true := by simp; omega
        clear hst hc HB
        go_wp2
        go_round
        case rel => exact ⟨k + 1, by omega, by go_num, HS⟩
        case measure => simp [intOf]; omega
      · have hE := plain_end a b k s w ha hb hle hk HB.out
        obtain ⟨b1, b2, b3⟩ := hE
        unfold BehIs C at b1 b2 b3
        simp only at b1 b2 b3
        have B1 := Lib.hid b1
        have B2 := Lib.hid b2
        have B3 := Lib.hid b3
        have s1 := same_of (p := (a + 1, b + 1 + k)) (q := (a + 1, b + 1 + k)) (z := true) (by simp; omega) (by simp; omega) (by simp; omega) (by simp; omega) (by simp)
        have s2 := same_of (p := (a + 2, 1)) (q := (a + 2, 1)) (z := true) (by simp; omega) (by simp) (by simp; omega) (by simp) (by simp)
        have s3 := same_of (p := (a + 1, b + 1)) (q := (a + 1, b + 1)) (z := true) (by simp; omega) (by simp; omega) (by simp; omega) (by simp; omega) (by simp)
        unfold Same at s1 s2 s3
        simp only at s1 s2 s3
        clear b1 b2 b3 HB
        by_cases hk2 : k < s.size
        · have hc : s[k].toNat = 10 := by
            apply Classical.byContradiction; intro hne
            exact hlt ⟨hk2, by rw [getElem!_pos s k hk2]; exact hne⟩
          have hcb : ((s[k].toNat : Int) != 10) = false := by simp [hc]
          clear hlt hc
          go_wp2_with fail
          ((with_reducible refine (B1.out _).mono ?_); rintro e w' ⟨rfl, rfl⟩)
          go_wp2_with fail
          ((with_reducible refine (O2.out _ hk _).mono ?_); rintro e w' ⟨rfl, rfl⟩)
          go_wp2_with fail
          ((with_reducible refine (B2.out _).mono ?_); rintro e w' ⟨rfl, rfl⟩)
          go_wp2_with fail
          ((with_reducible refine (O3.out _).mono ?_); rintro e w' ⟨rfl, rfl⟩)
          go_wp2_with fail
          ((with_reducible refine (B3.out _).mono ?_); rintro e w' ⟨rfl, rfl⟩)
          go_wp2_with fail
          ((with_reducible refine (works_any _ HT.out).mono ?_); rintro e x1 ⟨rfl, g1⟩)
          go_wp2
          go_ret
          exact ⟨rfl, g1⟩
        · clear hlt
          go_wp2_with fail
          ((with_reducible refine (B1.out _).mono ?_); rintro e w' ⟨rfl, rfl⟩)
          go_wp2_with fail
          ((with_reducible refine (O2.out _ hk _).mono ?_); rintro e w' ⟨rfl, rfl⟩)
          go_wp2_with fail
          ((with_reducible refine (B2.out _).mono ?_); rintro e w' ⟨rfl, rfl⟩)
          go_wp2_with fail
          ((with_reducible refine (O3.out _).mono ?_); rintro e w' ⟨rfl, rfl⟩)
          go_wp2_with fail
          ((with_reducible refine (B3.out _).mono ?_); rintro e w' ⟨rfl, rfl⟩)
          go_wp2_with fail
          ((with_reducible refine (works_any _ HT.out).mono ?_); rintro e x1 ⟨rfl, g1⟩)
          go_wp2
          go_ret
          exact ⟨rfl, g1⟩

end Go.Proofs.YtpomnihgimgpdaaDoor.Pl
