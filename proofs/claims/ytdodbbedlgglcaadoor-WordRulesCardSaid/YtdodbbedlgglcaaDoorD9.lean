/- The walk of the reference's Text. -/
import Derived.Test.YtdodbbedlgglcaaDoorD7
set_option linter.unusedSimpArgs false
set_option linter.unusedVariables false
namespace Go.Proofs.YtdodbbedlgglcaaDoor.Wd
open Go.RowKit
open WPlain

theorem below_alloc {w wr : World} (h : Below w.heap.size w wr) (o : Obj) : Below w.heap.size w (wr.alloc o) := h.alloc h.size o
theorem ofNat48 (n : Nat) : UInt8.ofNat (48 + n) = 48 + UInt8.ofNat n := UInt8.ofNat_add 48 n
theorem dec_step (m : Nat) (h : 9 < m) (l : List UInt8) : Lib.decDigits m ++ l = Lib.decDigits (m / 10) ++ (48 + UInt8.ofNat (m % 10)) :: l := by
  rw [dec_big m h, ofNat48]; simp
theorem dec_end (m : Nat) (h : ¬ 9 < m) (l : List UInt8) : Lib.decDigits m ++ l = (48 + UInt8.ofNat m) :: l := by
  rw [dec_small m h, ofNat48]; rfl
theorem text_pos (s : Bool) (a N : Nat) (h : textN s a = (N : Int)) : textP s a = Lib.decDigits N := by
  show Lib.itoa (textN s a) = _
  rw [h]; unfold Lib.itoa; rw [if_neg (by omega)]; rfl
theorem text_neg (s : Bool) (a N : Nat) (h : textN s a = -((N : Int))) (h0 : 0 < N) : textP s a = 45 :: Lib.decDigits N := by
  show Lib.itoa (textN s a) = _
  rw [h]; unfold Lib.itoa; rw [if_pos (by omega)]; simp

set_option maxHeartbeats 3200000 in
theorem rtext_f (N : Nat) (w : World) (hN : N < 65536) (hn : textN false N = (N : Int)) : Calls Tryd.prog 22 #[.bool false, .int .u16 N] w fun e w' => e = .returned (.string ⟨(textP false N).toArray⟩) ∧ Below w.heap.size w w' := by
  have HP := Lib.hid (text_pos false N N hn)
  have hmx : max ((N : Int)) (-((N : Int))) = (N : Int) := by omega
  have hnn : ¬ (N : Int) < 0 := by omega
  go_enter Tryd.func22, Tryd.ntmps22
  go_wp2
  go_loopw [5, 6] (fun n s wr => ∃ (m : Nat) (l : List UInt8), m ≤ N ∧ n = .int .i64 m ∧ s = .string ⟨l.toArray⟩ ∧ l.length + m ≤ N ∧ Hid (Lib.decDigits N = Lib.decDigits m ++ l) ∧ Below w.heap.size w wr) (fun n _ _ => (intOf n).toNat)
  case atStart => exact ⟨N, [], Nat.le_refl _, rfl, rfl, by simp, Lib.hid (by simp), Below.refl _ _⟩
  case round =>
    obtain ⟨m, l, hm, rfl, rfl, hlen, hl, hb⟩ := hrel
    by_cases h9 : 9 < m
    · have hc := conv_one wr (48 + (m : Int) % 10) (by omega) (by omega)
      go_wp2
      refine ⟨⟨m / 10, (48 + UInt8.ofNat (m % 10)) :: l, by omega, by simp, by rw [str_cons], by simp; omega, Lib.hid (by rw [hl.out, dec_step m h9]), below_alloc hb _⟩, ?_⟩
      simp [intOf]; omega
    · have hc := conv_one wr (48 + (m : Int)) (by omega) (by omega)
      have HE := Lib.hid (show Lib.decDigits N = (48 + UInt8.ofNat m) :: l from by rw [hl.out, dec_end m h9])
      clear hl
      go_wp2
      go_ret
      exact ⟨by rw [HP.out, HE.out]; first | rfl | simp only [str_cons], below_alloc hb _⟩

set_option maxHeartbeats 3200000 in
theorem rtext_p (a N : Nat) (w : World) (ha : a < 65536) (hn : textN true a = (N : Int)) (h0 : 0 ≤ N) (hN : N < 65536) : Calls Tryd.prog 22 #[.bool true, .int .u16 a] w fun e w' => e = .returned (.string ⟨(textP true a).toArray⟩) ∧ Below w.heap.size w w' := by
  have HP := Lib.hid (text_pos true a N hn)
  have h1 := rint_any a w ha
  rw [show sg a = (N : Int) from hn] at h1
  have H1 := Lib.hid h1
  clear h1
  have hmx : max ((N : Int)) (-((N : Int))) = (N : Int) := by omega
  have hnn : ¬ (N : Int) < 0 := by omega
  go_enter Tryd.func22, Tryd.ntmps22
  go_wp2_with fail
  ((with_reducible refine H1.out.mono ?_); rintro e w' ⟨rfl, rfl⟩)
  go_wp2
  go_loopw [5, 6] (fun n s wr => ∃ (m : Nat) (l : List UInt8), m ≤ N ∧ n = .int .i64 m ∧ s = .string ⟨l.toArray⟩ ∧ l.length + m ≤ N ∧ Hid (Lib.decDigits N = Lib.decDigits m ++ l) ∧ Below w.heap.size w wr) (fun n _ _ => (intOf n).toNat)
  case atStart => exact ⟨N, [], Nat.le_refl _, rfl, rfl, by simp, Lib.hid (by simp), Below.refl _ _⟩
  case round =>
    obtain ⟨m, l, hm, rfl, rfl, hlen, hl, hb⟩ := hrel
    by_cases h9 : 9 < m
    · have hc := conv_one wr (48 + (m : Int) % 10) (by omega) (by omega)
      go_wp2
      refine ⟨⟨m / 10, (48 + UInt8.ofNat (m % 10)) :: l, by omega, by simp, by rw [str_cons], by simp; omega, Lib.hid (by rw [hl.out, dec_step m h9]), below_alloc hb _⟩, ?_⟩
      simp [intOf]; omega
    · have hc := conv_one wr (48 + (m : Int)) (by omega) (by omega)
      have HE := Lib.hid (show Lib.decDigits N = (48 + UInt8.ofNat m) :: l from by rw [hl.out, dec_end m h9])
      clear hl
      go_wp2
      go_ret
      exact ⟨by rw [HP.out, HE.out]; first | rfl | simp only [str_cons], below_alloc hb _⟩

set_option maxHeartbeats 3200000 in
theorem rtext_n (a N : Nat) (w : World) (ha : a < 65536) (hn : textN true a = -((N : Int))) (h0 : 0 < N) (hN : N < 65536) : Calls Tryd.prog 22 #[.bool true, .int .u16 a] w fun e w' => e = .returned (.string ⟨(textP true a).toArray⟩) ∧ Below w.heap.size w w' := by
  have HP := Lib.hid (text_neg true a N hn h0)
  have h1 := rint_any a w ha
  rw [show sg a = -((N : Int)) from hn] at h1
  have H1 := Lib.hid h1
  clear h1
  have hmx : max (-((N : Int))) ((N : Int)) = (N : Int) := by omega
  have hnn : -((N : Int)) < 0 := by omega
  go_enter Tryd.func22, Tryd.ntmps22
  go_wp2_with fail
  ((with_reducible refine H1.out.mono ?_); rintro e w' ⟨rfl, rfl⟩)
  go_wp2
  go_loopw [5, 6] (fun n s wr => ∃ (m : Nat) (l : List UInt8), m ≤ N ∧ n = .int .i64 m ∧ s = .string ⟨l.toArray⟩ ∧ l.length + m ≤ N ∧ Hid (Lib.decDigits N = Lib.decDigits m ++ l) ∧ Below w.heap.size w wr) (fun n _ _ => (intOf n).toNat)
  case atStart => exact ⟨N, [], Nat.le_refl _, rfl, rfl, by simp, Lib.hid (by simp), Below.refl _ _⟩
  case round =>
    obtain ⟨m, l, hm, rfl, rfl, hlen, hl, hb⟩ := hrel
    by_cases h9 : 9 < m
    · have hc := conv_one wr (48 + (m : Int) % 10) (by omega) (by omega)
      go_wp2
      refine ⟨⟨m / 10, (48 + UInt8.ofNat (m % 10)) :: l, by omega, by simp, by rw [str_cons], by simp; omega, Lib.hid (by rw [hl.out, dec_step m h9]), below_alloc hb _⟩, ?_⟩
      simp [intOf]; omega
    · have hc := conv_one wr (48 + (m : Int)) (by omega) (by omega)
      have HE := Lib.hid (show Lib.decDigits N = (48 + UInt8.ofNat m) :: l from by rw [hl.out, dec_end m h9])
      clear hl
      go_wp2
      go_ret
      exact ⟨by rw [HP.out, HE.out]; first | rfl | simp only [str_cons], below_alloc hb _⟩

theorem rtext_any (s : Bool) (a : Nat) (w : World) (ha : a < 65536) : Calls Tryd.prog 22 #[.bool s, .int .u16 a] w fun e w' => e = .returned (.string ⟨(textP s a).toArray⟩) ∧ Below w.heap.size w w' := by
  cases s
  · exact rtext_f a w ha rfl
  · have := sg_bd a ha
    by_cases h : sg a < 0
    · exact rtext_n a (-(sg a)).toNat w ha (show sg a = _ from by omega) (by omega) (by omega)
    · exact rtext_p a (sg a).toNat w ha (show sg a = _ from by omega) (by omega) (by omega)

end Go.Proofs.YtdodbbedlgglcaaDoor.Wd
