/- The walk of the reference's Read, joined. -/
import Derived.Test.YtpomnihgimgpdaaDoorP12
set_option linter.unusedSimpArgs false
set_option linter.unusedVariables false
namespace Go.Proofs.YtpomnihgimgpdaaDoor.Pl
open Go.RowKit
open Fl
open Num

theorem r_frame (s : ByteArray) (k x y b b' : Nat) (a1 a5 a6 a7 a8 a11 a12 a13 a14 u4 u9 u10 u15 u16 u17 u18 u19 u20 u21 u22 u23 u24 u25 u26 u27 u28 u29 : Value) : seqTo rOps (rVal s k x y b') ⟨#[.string s, a1, .pointer (some ⟨b, 0, none⟩), .int .i64 k, u4, a5, a6, a7, a8, u9, u10, a11, a12, a13, a14, u15, u16, u17, u18, u19, u20, u21, u22, u23, u24, u25, u26, u27, u28, u29], []⟩ 12 = ⟨#[.string s, a1, .pointer (some ⟨b, 0, none⟩), .int .i64 k, .pointer (some ⟨b', 0, none⟩), a5, a6, a7, a8, u9, u10, a11, a12, a13, a14, .string s, .int .i64 k, .string (s.extract 0 k), .int .i64 x, .string s, .int .i64 k, .int .i64 ((k : Int) + 1), .string (s.extract (k + 1) s.size), .int .i64 y, .agg #[.int .i64 x, .int .i64 y], u25, u26, u27, u28, u29], []⟩ := by kernel_rfl

theorem isN_isR (x y : Nat) : isN (x, y) = isR x y := by
  rw [Bool.eq_iff_iff]; simp [isN, inN, isR]; omega
theorem rEnd_old (w : World) (x y : Nat) : Two (rEnd (w.alloc (.cells #[.int .i64 0, .int .i64 0] 25)) x y) w.heap.size 0 0 := by
  unfold rEnd; refine ⟨?_, ?_, ?_, ?_⟩ <;> simp [go_sem]
theorem rEnd_new (w : World) (x y : Nat) : Two (rEnd (w.alloc (.cells #[.int .i64 0, .int .i64 0] 25)) x y) (w.heap.size + 1) x y := by
  unfold rEnd; refine ⟨?_, ?_, ?_, ?_⟩ <;> simp [go_sem]
theorem rEnd_size (w : World) (x y : Nat) : (rEnd (w.alloc (.cells #[.int .i64 0, .int .i64 0] 25)) x y).heap.size = w.heap.size + 2 := by
  unfold rEnd; simp
theorem rEnd_below (w : World) (x y : Nat) : Below w.heap.size w (rEnd (w.alloc (.cells #[.int .i64 0, .int .i64 0] 25)) x y) := by
  unfold rEnd; exact (below_alloc (below_alloc (Below.refl _ _) _) _).drew

set_option maxHeartbeats 6400000 in
theorem rRead_any (s : ByteArray) (w : World) (hs : s.size ≤ 1073741800) : Calls Tryd.prog 25 #[.string s] w fun e w' => e = .returned (R ((readN s.data.toList).1 : Nat) ((readN s.data.toList).2 : Nat)) ∧ Below w.heap.size w w' := by
  unfold R
  go_enter Tryd.func25, Tryd.ntmps25
  go_wp2
  go_loop [3] (fun i => ∃ k : Nat, k ≤ s.size ∧ i = .int .i64 k ∧ Hid (readN s.data.toList = readFrom (s.data.toList.take k) (s.data.toList.drop k))) (fun i => s.size - (intOf i).toNat)
  case atStart => exact ⟨0, Nat.zero_le _, rfl, Lib.hid rfl⟩
  case round =>
    obtain ⟨k, hk, rfl, HB⟩ := hrel
    by_cases hlt : k < s.size
    · by_cases hc : s[k].toNat = 58
      · have hcb : ((s[k].toNat : Int) == 58) = true := by simp [hc]
        have hR := show readN s.data.toList = readP (s.data.toList.take k) (s.data.toList.drop (k + 1)) from by rw [HB.out, drop_cons s k hlt, readFrom_here _ hc]
        have ha := ext_to s k
        have hb := ext_from s (k + 1)
        have sa := ext_to_size s k
        have sb := ext_from_size s (k + 1)
        have n1 := fun W => Number_any (s.extract 0 k) W (by omega)
        have n2 := fun W => Number_any (s.extract (k + 1) s.size) W (by omega)
        rw [ha] at n1
        rw [hb] at n2
        have N1 := Lib.hid n1
        have N2 := Lib.hid n2
        have l1 := numN_le (s.data.toList.take k)
        have l2 := numN_le (s.data.toList.drop (k + 1))
        have HR := Lib.hid (show readN s.data.toList = (if isN (numN (s.data.toList.take k), numN (s.data.toList.drop (k + 1))) then (numN (s.data.toList.take k), numN (s.data.toList.drop (k + 1))) else (0, 0)) from hR)
        clear HB ha hb sa sb n1 n2 hc hR
        generalize numN (s.data.toList.take k) = x at *
        generalize numN (s.data.toList.drop (k + 1)) = y at *
        go_wp2
        refine r_region s k x y hs hlt _ _ _ rfl rfl rfl N1.out N2.out ?_
        rw [r_frame, show (w.alloc (.cells #[.int .i64 0, .int .i64 0] 25)).heap.size = w.heap.size + 1 by simp]
        have tA := rEnd_old w x y
        have tB := rEnd_new w x y
        have hsz := rEnd_size w x y
        have hbe := rEnd_below w x y
        generalize rEnd (w.alloc (.cells #[.int .i64 0, .int .i64 0] 25)) x y = W at *
        have hI := fun w' => rIs_any (x : Int) (y : Int) w'
        unfold R at hI
        (try simp only [Exit.inBlock, Exit.then])
        obtain ⟨z0, z1, z2, z3⟩ := tB
        cases a : isR (x : Int) (y : Int)
        · rw [a] at hI
          have HI := Lib.hid hI
          have HR' := Lib.hid (show readN s.data.toList = (0, 0) by rw [HR.out, if_neg]; rw [isN_isR, a]; simp)
          have HB := Lib.hid hbe
          have HS := Lib.hid hsz
          clear hI a HR hbe hsz
          go_wp2_with fail
          ((with_reducible refine (HI.out _).mono ?_); rintro e w1 ⟨rfl, h1⟩)
          have tA1 := tA.below h1 (by rw [HS.out]; omega)
          have tA2 := (tA1.set0 0).set1 0
          obtain ⟨b0, b1, b2, b3⟩ := tA1
          have hsz1 := h1.size
          rw [HS.out] at hsz1
          replace h1 := HB.out.trans (h1.mono (by rw [HS.out]; omega))
          clear z0 z1 z2 z3 tA HB HS
          go_wp2
          (try simp only [Exit.inBlock, Exit.then])
          refine bodyPost_ret (two_ret rfl _ _ w.heap.size 0 0 rfl tA2.1 tA2.2.1) rfl ?_
          exact ⟨ret_R (by rw [HR'.out]; rfl) (by rw [HR'.out]; rfl), (h1.setCell (by simp) _).setCell (by simp) _⟩
        · rw [a] at hI
          have HI := Lib.hid hI
          have HR' := Lib.hid (show readN s.data.toList = (x, y) by rw [HR.out, if_pos]; rw [isN_isR, a])
          have HB := Lib.hid hbe
          have HS := Lib.hid hsz
          have tB : Two W (w.heap.size + 1) x y := ⟨z0, z1, z2, z3⟩
          clear hI a HR hbe hsz
          go_wp2_with fail
          ((with_reducible refine (HI.out _).mono ?_); rintro e w1 ⟨rfl, h1⟩)
          have tA1 := tA.below h1 (by rw [HS.out]; omega)
          have tB1 := tB.below h1 (by rw [HS.out]; omega)
          have tA2 := (tA1.set0 x).set1 y
          obtain ⟨b0, b1, b2, b3⟩ := tA1
          obtain ⟨d0, d1, d2, d3⟩ := tB1
          have hsz1 := h1.size
          rw [HS.out] at hsz1
          replace h1 := HB.out.trans (h1.mono (by rw [HS.out]; omega))
          clear z0 z1 z2 z3 tA tB HB HS
          go_wp2
          (try simp only [Exit.inBlock, Exit.then])
          refine bodyPost_ret (two_ret rfl _ _ w.heap.size x y rfl tA2.1 tA2.2.1) rfl ?_
          exact ⟨ret_R (by rw [HR'.out]) (by rw [HR'.out]), (h1.setCell (by simp) _).setCell (by simp) _⟩
      · have hcb : ((s[k].toNat : Int) == 58) = false := by simp; omega
        have HB' := Lib.hid (show readN s.data.toList = readFrom (s.data.toList.take (k + 1)) (s.data.toList.drop (k + 1)) from by rw [HB.out, drop_cons s k hlt, readFrom_next _ hc, take_snoc s k hlt])
        clear HB hc
        go_wp2
        go_round
        case rel => exact ⟨k + 1, by omega, by go_num, HB'⟩
        case measure => simp [intOf]; omega
    · have HR := Lib.hid (show readN s.data.toList = (0, 0) by rw [HB.out, List.drop_eq_nil_of_le (by simp; omega)]; rfl)
      have tA : Two (w.alloc (.cells #[.int .i64 0, .int .i64 0] 25)) w.heap.size 0 0 := by refine ⟨?_, ?_, ?_, ?_⟩ <;> simp [go_sem]
      obtain ⟨b0, b1, b2, b3⟩ := tA
      clear HB
      go_wp2
      (try simp only [Exit.inBlock, Exit.then])
      refine bodyPost_ret (two_ret rfl _ _ w.heap.size 0 0 rfl b0 b1) rfl ?_
      exact ⟨ret_R (by rw [HR.out]; rfl) (by rw [HR.out]; rfl), below_alloc (Below.refl _ _) _⟩

end Go.Proofs.YtpomnihgimgpdaaDoor.Pl
