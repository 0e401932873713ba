/- The walk of ExprParens. -/
import Derived.Test.YtnboenmkngjhmaaE28
import Derived.Test.YtnboenmkngjhmaaF5
set_option linter.unusedSimpArgs false
set_option linter.unusedVariables false
namespace Go.Proofs.Ytnboenmkngjhmaa.Ex
open Go.RowKit
open Tr (Nd Fo RepS RepN Rep)
open Lx (Tk noTk Blk run_store_complexL TokAt scanL flat scanEnd at_ flat_len bt)
open Fl
attribute [local go_sem] run_store_complexL run_field1 run_field3

theorem bt_app (l : List UInt8) (c : UInt8) (k : Nat) (h : l = List.replicate k c) : bt l ++ ⟨#[c]⟩ = bt (List.replicate (k + 1) c) := by
  subst h
  apply Lx.bytes_ext
  rw [ByteArray.data_append, Array.toList_append]
  simp [bt, List.replicate_succ']
theorem paren_text (k : Nat) (s : ByteArray) : (((bt (List.replicate k 40) ++ s) ++ ⟨#[32]⟩) ++ bt (List.replicate k 41)).data.toList = List.replicate k 40 ++ s.data.toList ++ 32 :: List.replicate k 41 := by
  simp [bt, ByteArray.data_append]
theorem paren_size (k : Nat) (s : ByteArray) : (((bt (List.replicate k 40) ++ s) ++ ⟨#[32]⟩) ++ bt (List.replicate k 41)).size = s.size + 1 + 2 * k := by
  have h1 : ∀ l, (bt l).size = l.length := fun l => by simp [bt, ByteArray.size]
  rw [ByteArray.size_append, ByteArray.size_append, ByteArray.size_append, h1, h1, List.length_replicate, List.length_replicate]
  show k + s.size + 1 + k = _
  omega
/-- The reference's Same, of two trees in memory that differ in places alone. -/
theorem same_at {w : World} {x y : T1} {b b' : Nat} {S S' : Nat → Prop} (hx : RepS S w (.node x.1 x.2 .no) [.pointer (some ⟨b, 0, none⟩)]) (hy : RepS S' w (.node y.1 y.2 .no) [.pointer (some ⟨b', 0, none⟩)]) (hb : Bare x y) (hc : cntT x ≤ 1000000) :
    Calls Try.prog 12 #[.pointer (some ⟨b, 0, none⟩), .pointer (some ⟨b', 0, none⟩)] w fun e w' => e = .returned (.bool true) ∧ ∃ m, w' = w.drewN m := by
  have := Tr.rsame_any _ x.1 x.2 y.1 y.2 _ _ w (Nat.le_refl _) hc hx.rep hy.rep
  rw [show (Fo.node x.1 x.2 .no).same (.node y.1 y.2 .no) = true from hb] at this
  exact this
set_option maxRecDepth 100000 in
set_option maxHeartbeats 3200000 in
theorem parens_walk (s : ByteArray) (a1 : Int) (w : World) (w0 : s.size ≤ 9223372036854775807) (h1 : 0 ≤ a1 ∧ a1 ≤ 255) :
    Calls Try.prog 5 #[.string s, .int .u8 a1] w fun e w' => e = .returned (.bool true) ∧ Below w.heap.size w w' := by
  have HV := heavy_any s w
  by_cases hh : 2048 < s.size
  · rw [decide_eq_true hh] at HV
    have HV := Lib.hid HV
    have WK := Lib.hid (works_any w)
    clear hh
    go_enter Try.func5, Try.ntmps5
    go_wp2_with fail
    ((with_reducible refine HV.out.mono ?_); rintro e w1 ⟨rfl, rfl⟩)
    go_wp2_with fail
    ((with_reducible refine WK.out.mono ?_); rintro e w1 ⟨rfl, hb⟩)
    go_wp2
    go_ret
    exact ⟨rfl, hb⟩
  · rw [decide_eq_false hh] at HV
    have HV := Lib.hid HV
    have D0 := row_any s (by omega) w
    have x1 : 0 ≤ a1 := h1.1
    have x2 : a1 ≤ 255 := h1.2
    obtain ⟨k, hk⟩ : ∃ k : Nat, (a1 % 6) = (k : Int) := ⟨(a1 % 6).toNat, by omega⟩
    have hk5 : k ≤ 5 := by omega
    have hL := rowP_len s.data.toList
    have HPL := Lib.hid (fun x h => parens_law (s := s.data.toList) (by simp; omega) (x := x) h (k := k) hk5)
    generalize hrow : rowP s.data.toList = L at *
    have D0 := Lib.hid D0
    have HK := Lib.hid hk
    clear hk h1 hrow
    go_enter Try.func5, Try.ntmps5
    go_wp2_with fail
    ((with_reducible refine HV.out.mono ?_); rintro e w1 ⟨rfl, rfl⟩)
    go_wp2_with fail
    ((with_reducible refine D0.out.mono ?_); rintro e w1 ⟨A, c, rfl, hc, ha, hb⟩)
    have HB := Lib.hid hb
    have D1 := Expr_0 ha c
    clear ha hb D0
    cases hx : exprP L 0 with
    | error n =>
      rw [hx] at D1
      have D1 := Lib.hid D1
      clear hx
      go_wp2_with fail
      ((with_reducible refine D1.out.mono ?_); rintro e w2 ⟨rfl, hb⟩)
      have HB := Lib.hid (HB.out.trans (hb.mono HB.out.size))
      clear hb D1
      have WK := Lib.hid (works_any w2)
      go_wp2_with fail
      ((with_reducible refine WK.out.mono ?_); rintro e w9 ⟨rfl, hb⟩)
      have HB := Lib.hid (HB.out.trans (hb.mono HB.out.size))
      clear hb WK
      go_wp2
      go_ret
      exact ⟨rfl, HB.out⟩
    | ok r =>
      obtain ⟨x, n⟩ := r
      have hn := expr_end hx
      have hcn := expr_count hx
      rw [hx] at D1
      have D1 := Lib.hid D1
      by_cases hne : n = L.length
      case neg =>
        have b1 : ((n : Int) == (L.length : Int)) = false := by simp only [beq_eq_false_iff_ne, ne_eq]; omega
        have b2 : ((n : Int) != (L.length : Int)) = true := by simp [bne, b1]
        clear hx
        go_wp2_with fail
        ((with_reducible refine D1.out.mono ?_); rintro e w2 ⟨b, rfl, _, hb⟩)
        have HB := Lib.hid (HB.out.trans (hb.mono HB.out.size))
        clear hb D1
        have WK := Lib.hid (works_any w2)
        go_wp2_with fail
        ((with_reducible refine WK.out.mono ?_); rintro e w9 ⟨rfl, hb⟩)
        have HB := Lib.hid (HB.out.trans (hb.mono HB.out.size))
        clear hb WK
        go_wp2
        go_ret
        exact ⟨rfl, HB.out⟩
      case pos =>
        subst hne
        obtain ⟨x', e1, hbare⟩ := HPL.out x hx
        have E1 := Lib.hid e1
        clear hx e1 HPL
        go_wp2_with fail
        ((with_reducible refine D1.out.mono ?_); rintro e w2 ⟨b, rfl, hr, hb⟩)
        have HB := Lib.hid (HB.out.trans (hb.mono HB.out.size))
        have HR := Lib.hid hr
        clear hb hr D1
        go_wp2
        go_loop [9, 10, 11] (fun av bv i => ∃ (m : Nat) (a b : ByteArray), m ≤ k ∧ av = .string a ∧ bv = .string b ∧ i = .int .i64 m ∧ a.size ≤ m ∧ b.size ≤ m ∧ Hid (a = bt (List.replicate m 40)) ∧ Hid (b = bt (List.replicate m 41))) (fun _ _ i => k - (intOf i).toNat)
        case atStart => exact ⟨0, ⟨#[]⟩, ⟨#[]⟩, Nat.zero_le _, rfl, rfl, rfl, Nat.le_refl _, Nat.le_refl _, Lib.hid rfl, Lib.hid rfl⟩
        case round =>
          obtain ⟨m, p, q, hm, rfl, rfl, rfl, hp, hq, HP, HQ⟩ := hrel
          by_cases hlt : m < k
          · have y1 : (m : Int) < a1 % 6 := by rw [HK.out]; omega
            have y0 : (0 : Int) ≤ (m : Int) := by omega
            go_wp2
            go_round
            case rel => exact ⟨m + 1, _, _, by omega, rfl, rfl, by simp, by rw [ByteArray.size_append]; show p.size + 1 ≤ _; omega, by rw [ByteArray.size_append]; show q.size + 1 ≤ _; omega, Lib.hid (HP.out ▸ bt_app _ _ _ rfl), Lib.hid (HQ.out ▸ bt_app _ _ _ rfl)⟩
            case measure => (show k - _ < k - _); simp [intOf]; omega
          · have y0 : (0 : Int) ≤ (m : Int) := by omega
            obtain rfl : m = k := by omega
            have hk' := HK.out
            have tx := paren_text m s
            have ts := paren_size m s
            rw [← HP.out, ← HQ.out] at tx ts
            have TX := Lib.hid tx
            have TS := Lib.hid ts
            clear tx ts
            obtain ⟨L2, l2⟩ : ∃ L2, rowP (List.replicate m 40 ++ s.data.toList ++ 32 :: List.replicate m 41) = L2 := ⟨_, rfl⟩
            rw [l2] at E1
            have D2 := Lib.hid (row_at (((p ++ s) ++ ⟨#[32]⟩) ++ q) (by rw [TS.out]; omega) L2 (by rw [TX.out]; exact l2) w2)
            clear l2
            go_wp2_with fail
            ((with_reducible refine D2.out.mono ?_); rintro e w3 ⟨A2, c2, rfl, _, ha, hb⟩)
            have HB := Lib.hid (HB.out.trans (hb.mono HB.out.size))
            have HZ := Lib.hid hb
            have D3 := Expr_0 ha c2
            rw [E1.out] at D3
            have D3 := Lib.hid D3
            clear ha hb D2
            go_wp2_with fail
            ((with_reducible refine D3.out.mono ?_); rintro e w4 ⟨b2, rfl, hr, hb⟩)
            have HB := Lib.hid (HB.out.trans (hb.mono HB.out.size))
            have HZ := Lib.hid (HZ.out.trans (hb.mono HZ.out.size))
            have SM := Lib.hid (same_at (HR.out.below HZ.out) hr hbare (by omega))
            clear hr hb D3 E1
            go_wp2_with fail
            ((with_reducible refine SM.out.mono ?_); rintro e w5 ⟨rfl, j, rfl⟩)
            have HB := Lib.hid (Lx.below_drewN HB.out j)
            have WK := Lib.hid (works_any (w4.drewN j))
            clear SM
            go_wp2_with fail
            ((with_reducible refine WK.out.mono ?_); rintro e w9 ⟨rfl, hb⟩)
            have HB := Lib.hid (HB.out.trans (hb.mono HB.out.size))
            clear hb WK
            go_wp2
            go_ret
            exact ⟨rfl, HB.out⟩
theorem parens_law_ (a0 : ByteArray) (a1 : Int) (w0 : a0.size ≤ maxLen) (w1 : (Lit.int .u8 a1).wf = true) (w : World) :
    Calls Try.prog 5 #[.string a0, .int .u8 a1] w fun e w' => e = .returned (.bool true) ∧ Below w.heap.size w w' := by
  have b1 := bounds_u8 w1
  exact parens_walk a0 a1 w (by unfold maxLen at w0; omega) ⟨by omega, by omega⟩
end Go.Proofs.Ytnboenmkngjhmaa.Ex
