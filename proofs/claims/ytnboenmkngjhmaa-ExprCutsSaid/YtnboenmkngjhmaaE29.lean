/- The walk of ExprCuts. -/
import Derived.Test.YtnboenmkngjhmaaE28
set_option linter.unusedSimpArgs false
set_option linter.unusedVariables false
namespace Go.Proofs.Ytnboenmkngjhmaa.Ex
open Go.RowKit
open Tr (Nd Fo RepS RepN Rep)
open Lx (Tk noTk Blk run_store_complexL TokAt scanL flat scanEnd at_ flat_len)
open Fl
attribute [local go_sem] run_store_complexL run_field1 run_field3

theorem slice_front (A : Option Addr) (n c m : Nat) (hm : m ≤ c) (w : World) : (Instr.slice 28 (.slice A n c) none (some (.int .i64 m)) none).run Try.prog w = .ok (.slice A m c) w := by
  have h0 : (0 : Int) ≤ (m : Int) := by omega
  have h1 : (m : Int) ≤ (c : Int) := by omega
  simp [go_sem, h0, h1, sliced, Result.andThen]
theorem slice_frontI (A : Option Addr) (n c m : Nat) (hm : m ≤ c) (mI : Int) (e : mI = (m : Nat)) (w : World) : (Instr.slice 28 (.slice A n c) none (some (.int .i64 mI)) none).run Try.prog w = .ok (.slice A m c) w := by
  subst e; exact slice_front A n c m hm w
theorem does_full {w : World} {A : Option Addr} {L : List PT} (h : RowAt w A L) (c : Nat) (k : Nat) (hk : k < 4) (kI : Int) (e : kI = (k : Nat)) : Calls Try.prog 15 #[.slice A L.length c, .int .i64 0, .int .i64 kI] w (ParR w (doP L 0 k)) := by
  subst e; exact does_0 h c k hk
theorem does_cut {w : World} {A : Option Addr} {L : List PT} (h : RowAt w A L) (c : Nat) {m : Nat} (hm : m ≤ L.length) (k : Nat) (hk : k < 4) (kI : Int) (e : kI = (k : Nat)) : Calls Try.prog 15 #[.slice A m c, .int .i64 0, .int .i64 kI] w (ParR w (doP (L.take m) 0 k)) := by
  subst e; exact does_take h c hm k hk
set_option maxRecDepth 100000 in
set_option maxHeartbeats 3200000 in
theorem cuts_walk (s : ByteArray) (a1 a2 : Int) (w : World) (w0 : s.size ≤ 9223372036854775807) (h1 : 0 ≤ a1 ∧ a1 ≤ 255) (h2 : 0 ≤ a2 ∧ a2 ≤ 65535) :
    Calls Try.prog 7 #[.string s, .int .u8 a1, .int .u16 a2] w fun e w' => e = .returned (.bool true) ∧ Below w.heap.size w w' := by
  have HV := heavy_any s w
  by_cases hh : 2048 < s.size
  · rw [decide_eq_true hh] at HV
    have HV := Lib.hid HV
    have WK := Lib.hid (works_any w)
    clear hh
    go_enter Try.func7, Try.ntmps7
    go_wp2_with fail
    ((with_reducible refine HV.out.mono ?_); rintro e w1 ⟨rfl, rfl⟩)
    go_wp2_with fail
    ((with_reducible refine WK.out.mono ?_); rintro e w1 ⟨rfl, hb⟩)
    go_wp2
    go_ret
    exact ⟨rfl, hb⟩
  · rw [decide_eq_false hh] at HV
    have HV := Lib.hid HV
    have D0 := row_any s (by omega) w
    have x1 : 0 ≤ a1 := h1.1
    have x2 : a1 ≤ 255 := h1.2
    have x3 : 0 ≤ a1 % 4 := by omega
    have x4 : a1 % 4 ≤ 3 := by omega
    obtain ⟨k, hk⟩ : ∃ k : Nat, (a1 % 4) = (k : Int) := ⟨(a1 % 4).toNat, by omega⟩
    have hk4 : k < 4 := by omega
    have hL := rowP_len s.data.toList
    generalize rowP s.data.toList = L at *
    have D0 := Lib.hid D0
    have HK := Lib.hid hk
    clear hk h1
    go_enter Try.func7, Try.ntmps7
    go_wp2_with fail
    ((with_reducible refine HV.out.mono ?_); rintro e w1 ⟨rfl, rfl⟩)
    go_wp2_with fail
    ((with_reducible refine D0.out.mono ?_); rintro e w1 ⟨A, c, rfl, hc, ha, hb⟩)
    have HB := Lib.hid hb
    have HA := Lib.hid ha
    have D1 := Lib.hid (does_full ha c k hk4 (a1 % 4) HK.out)
    clear hb ha D0
    -- TAIL
    have HAT := Lib.hid (fun m => doP_at (L := L) (k := k) (m := m))
    have HER := Lib.hid (fun n => doP_err (L := L) (k := k) (n := n))
    have hlen := doP_len L k
    cases hx : doP L 0 k with
    | ok r =>
      obtain ⟨x, n⟩ := r
      have D1 := Lib.hid (show Calls Try.prog 15 #[.slice A L.length c, .int .i64 0, .int .i64 (a1 % 4)] _ (ParR _ (.ok (x, n))) from hx ▸ D1.out)
      have hn : n ≤ L.length := by rw [hx] at hlen; exact hlen
      have HAT := Lib.hid (show ∀ m, m ≤ n → _ from fun m hm => HAT.out m (by rw [hx]; exact hm))
      have y0 : (0 : Int) ≤ (n : Int) := by omega
      have y1 : ¬ (L.length < n) := by omega
      have y2 : ¬ ((n : Int) < 0) := by omega
      clear hx hlen HER
      go_wp2_with fail
      ((with_reducible refine D1.out.mono ?_); rintro e w2 ⟨b2, rfl, _, hb⟩)
      have HB := Lib.hid (HB.out.trans (hb.mono HB.out.size))
      have HA := Lib.hid (HA.out.below hb)
      clear hb D1
      obtain ⟨m, hm⟩ : ∃ m : Nat, a2 % ((n : Int) + 1) = (m : Int) := ⟨(a2 % ((n : Int) + 1)).toNat, by have := Int.emod_nonneg a2 (show (n : Int) + 1 ≠ 0 by omega); omega⟩
      have hmn : m ≤ n := by have := Int.emod_lt_of_pos a2 (show (0 : Int) < (n : Int) + 1 by omega); omega
      have hsl := fun w => slice_frontI A L.length c m (by omega) (a2 % ((n : Int) + 1)) hm w
      have D2 := Lib.hid (does_cut HA.out c (m := m) (by omega) k hk4 (a1 % 4) HK.out)
      have z0 : 0 ≤ a2 % ((n : Int) + 1) := by omega
      have HM := Lib.hid hm
      have HQ := HAT.out m hmn
      clear hm
      rcases HQ with ⟨y, j, hy, hj⟩ | hy
      · have D2 := Lib.hid (show Calls Try.prog 15 #[.slice A m c, .int .i64 0, .int .i64 (a1 % 4)] _ (ParR _ (.ok (y, j))) from hy ▸ D2.out)
        have z1 : (j : Int) ≤ a2 % ((n : Int) + 1) := by rw [HM.out]; omega
        clear hy
        go_wp2_with fail
        ((with_reducible refine D2.out.mono ?_); rintro e w3 ⟨b3, rfl, _, hb⟩)
        have HB := Lib.hid (HB.out.trans (hb.mono HB.out.size))
        clear hb hsl
        have WK := Lib.hid (works_any w3)
        go_wp2_with fail
        ((with_reducible refine WK.out.mono ?_); rintro e w9 ⟨rfl, hb⟩)
        have HB := Lib.hid (HB.out.trans (hb.mono HB.out.size))
        clear hb WK
        go_wp2
        go_ret
        exact ⟨rfl, HB.out⟩
      · have D2 := Lib.hid (show Calls Try.prog 15 #[.slice A m c, .int .i64 0, .int .i64 (a1 % 4)] _ (ParR _ (.error m)) from hy ▸ D2.out)
        have z1 : ((m : Int) == a2 % ((n : Int) + 1)) = true := by rw [HM.out]; exact beq_self_eq_true _
        clear hy
        go_wp2_with fail
        ((with_reducible refine D2.out.mono ?_); rintro e w3 ⟨rfl, hb⟩)
        have HB := Lib.hid (HB.out.trans (hb.mono HB.out.size))
        clear hb hsl
        have WK := Lib.hid (works_any w3)
        go_wp2_with fail
        ((with_reducible refine WK.out.mono ?_); rintro e w9 ⟨rfl, hb⟩)
        have HB := Lib.hid (HB.out.trans (hb.mono HB.out.size))
        clear hb WK
        go_wp2
        go_ret
        exact ⟨rfl, HB.out⟩
    | error n =>
      have D1 := Lib.hid (show Calls Try.prog 15 #[.slice A L.length c, .int .i64 0, .int .i64 (a1 % 4)] _ (ParR _ (.error n)) from hx ▸ D1.out)
      have hn : n ≤ L.length := by rw [hx] at hlen; exact hlen
      have HAT := Lib.hid (show ∀ m, m ≤ n → _ from fun m hm => HAT.out m (by rw [hx]; exact hm))
      have HE2 := Lib.hid (show n < L.length → _ from fun h => HER.out n hx h)
      have y0 : (0 : Int) ≤ (n : Int) := by omega
      have y1 : ¬ (L.length < n) := by omega
      have y2 : ¬ ((n : Int) < 0) := by omega
      clear hx hlen HER
      go_wp2_with fail
      ((with_reducible refine D1.out.mono ?_); rintro e w2 ⟨rfl, hb⟩)
      have HB := Lib.hid (HB.out.trans (hb.mono HB.out.size))
      have HA := Lib.hid (HA.out.below hb)
      clear hb D1
      by_cases hlt : n < L.length
      · have h3 := HE2.out hlt
        have D2 := does_cut HA.out c (m := n + 1) (by omega) k hk4 (a1 % 4) HK.out
        rw [h3] at D2
        have D2 := Lib.hid D2
        have hsl0 := fun w => slice_frontI A L.length c (n + 1) (by omega) ((n : Int) + 1) (by omega) w
        clear h3 HE2
        go_wp2_with fail
        ((with_reducible refine D2.out.mono ?_); rintro e w4 ⟨rfl, hb⟩)
        have HB := Lib.hid (HB.out.trans (hb.mono HB.out.size))
        have HA := Lib.hid (HA.out.below hb)
        clear hb D2 hsl0
        obtain ⟨m, hm⟩ : ∃ m : Nat, a2 % ((n : Int) + 1) = (m : Int) := ⟨(a2 % ((n : Int) + 1)).toNat, by have := Int.emod_nonneg a2 (show (n : Int) + 1 ≠ 0 by omega); omega⟩
        have hmn : m ≤ n := by have := Int.emod_lt_of_pos a2 (show (0 : Int) < (n : Int) + 1 by omega); omega
        have hsl := fun w => slice_frontI A L.length c m (by omega) (a2 % ((n : Int) + 1)) hm w
        have D2 := Lib.hid (does_cut HA.out c (m := m) (by omega) k hk4 (a1 % 4) HK.out)
        have z0 : 0 ≤ a2 % ((n : Int) + 1) := by omega
        have HM := Lib.hid hm
        have HQ := HAT.out m hmn
        clear hm
        rcases HQ with ⟨y, j, hy, hj⟩ | hy
        · have D2 := Lib.hid (show Calls Try.prog 15 #[.slice A m c, .int .i64 0, .int .i64 (a1 % 4)] _ (ParR _ (.ok (y, j))) from hy ▸ D2.out)
          have z1 : (j : Int) ≤ a2 % ((n : Int) + 1) := by rw [HM.out]; omega
          clear hy
          go_wp2_with fail
          ((with_reducible refine D2.out.mono ?_); rintro e w3 ⟨b3, rfl, _, hb⟩)
          have HB := Lib.hid (HB.out.trans (hb.mono HB.out.size))
          clear hb hsl
          have WK := Lib.hid (works_any w3)
          go_wp2_with fail
          ((with_reducible refine WK.out.mono ?_); rintro e w9 ⟨rfl, hb⟩)
          have HB := Lib.hid (HB.out.trans (hb.mono HB.out.size))
          clear hb WK
          go_wp2
          go_ret
          exact ⟨rfl, HB.out⟩
        · have D2 := Lib.hid (show Calls Try.prog 15 #[.slice A m c, .int .i64 0, .int .i64 (a1 % 4)] _ (ParR _ (.error m)) from hy ▸ D2.out)
          have z1 : ((m : Int) == a2 % ((n : Int) + 1)) = true := by rw [HM.out]; exact beq_self_eq_true _
          clear hy
          go_wp2_with fail
          ((with_reducible refine D2.out.mono ?_); rintro e w3 ⟨rfl, hb⟩)
          have HB := Lib.hid (HB.out.trans (hb.mono HB.out.size))
          clear hb hsl
          have WK := Lib.hid (works_any w3)
          go_wp2_with fail
          ((with_reducible refine WK.out.mono ?_); rintro e w9 ⟨rfl, hb⟩)
          have HB := Lib.hid (HB.out.trans (hb.mono HB.out.size))
          clear hb WK
          go_wp2
          go_ret
          exact ⟨rfl, HB.out⟩
      · clear HE2
        obtain ⟨m, hm⟩ : ∃ m : Nat, a2 % ((n : Int) + 1) = (m : Int) := ⟨(a2 % ((n : Int) + 1)).toNat, by have := Int.emod_nonneg a2 (show (n : Int) + 1 ≠ 0 by omega); omega⟩
        have hmn : m ≤ n := by have := Int.emod_lt_of_pos a2 (show (0 : Int) < (n : Int) + 1 by omega); omega
        have hsl := fun w => slice_frontI A L.length c m (by omega) (a2 % ((n : Int) + 1)) hm w
        have D2 := Lib.hid (does_cut HA.out c (m := m) (by omega) k hk4 (a1 % 4) HK.out)
        have z0 : 0 ≤ a2 % ((n : Int) + 1) := by omega
        have HM := Lib.hid hm
        have HQ := HAT.out m hmn
        clear hm
        rcases HQ with ⟨y, j, hy, hj⟩ | hy
        · have D2 := Lib.hid (show Calls Try.prog 15 #[.slice A m c, .int .i64 0, .int .i64 (a1 % 4)] _ (ParR _ (.ok (y, j))) from hy ▸ D2.out)
          have z1 : (j : Int) ≤ a2 % ((n : Int) + 1) := by rw [HM.out]; omega
          clear hy
          go_wp2_with fail
          ((with_reducible refine D2.out.mono ?_); rintro e w3 ⟨b3, rfl, _, hb⟩)
          have HB := Lib.hid (HB.out.trans (hb.mono HB.out.size))
          clear hb hsl
          have WK := Lib.hid (works_any w3)
          go_wp2_with fail
          ((with_reducible refine WK.out.mono ?_); rintro e w9 ⟨rfl, hb⟩)
          have HB := Lib.hid (HB.out.trans (hb.mono HB.out.size))
          clear hb WK
          go_wp2
          go_ret
          exact ⟨rfl, HB.out⟩
        · have D2 := Lib.hid (show Calls Try.prog 15 #[.slice A m c, .int .i64 0, .int .i64 (a1 % 4)] _ (ParR _ (.error m)) from hy ▸ D2.out)
          have z1 : ((m : Int) == a2 % ((n : Int) + 1)) = true := by rw [HM.out]; exact beq_self_eq_true _
          clear hy
          go_wp2_with fail
          ((with_reducible refine D2.out.mono ?_); rintro e w3 ⟨rfl, hb⟩)
          have HB := Lib.hid (HB.out.trans (hb.mono HB.out.size))
          clear hb hsl
          have WK := Lib.hid (works_any w3)
          go_wp2_with fail
          ((with_reducible refine WK.out.mono ?_); rintro e w9 ⟨rfl, hb⟩)
          have HB := Lib.hid (HB.out.trans (hb.mono HB.out.size))
          clear hb WK
          go_wp2
          go_ret
          exact ⟨rfl, HB.out⟩

theorem cuts_law (a0 : ByteArray) (a1 : Int) (a2 : Int) (w0 : a0.size ≤ maxLen) (w1 : (Lit.int .u8 a1).wf = true) (w2 : (Lit.int .u16 a2).wf = true) (w : World) :
    Calls Try.prog 7 #[.string a0, .int .u8 a1, .int .u16 a2] w fun e w' => e = .returned (.bool true) ∧ Below w.heap.size w w' := by
  have b1 := bounds_u8 w1
  have b2 := bounds_u16 w2
  exact cuts_walk a0 a1 a2 w (by unfold maxLen at w0; omega) ⟨by omega, by omega⟩ ⟨by omega, by omega⟩
end Go.Proofs.Ytnboenmkngjhmaa.Ex
