/- The walk of StmtCuts. -/
import Derived.Test.YtecmjhohniipoaaU9
import Derived.Deep.AppendLies
import Derived.Deep.LoopGhost
set_option linter.unusedSimpArgs false
set_option linter.unusedVariables false
namespace Go.Proofs.Ytecmjhohniipoaa.St
open Go.RowKit
open Tr (Nd Fo RepS RepN Rep cellsN)
open Lx (Tk noTk Blk run_store_complexL TokAt scanL flat scanEnd at_ flat_len)
open Fl
open Ex
attribute [local go_sem] run_store_complexL run_field1 run_field3

theorem heavy_any (s : ByteArray) (w : World) : Calls Try.prog 7 #[.string s] w fun e w' => e = .returned (.bool (decide (2048 < s.size))) ∧ w = w' := by
  go_enter Try.func7, Try.ntmps7
  go_wp2
  go_ret
  exact ⟨ret_bool (by rw [Bool.eq_iff_iff]; simp; omega), rfl⟩
theorem slice_front (A : Option Addr) (n c m : Nat) (hm : m ≤ c) (w : World) : (Instr.slice 24 (.slice A n c) none (some (.int .i64 m)) none).run Try.prog w = .ok (.slice A m c) w := by
  have h0 : (0 : Int) ≤ (m : Int) := by omega
  have h1 : (m : Int) ≤ (c : Int) := by omega
  simp [go_sem, h0, h1, sliced, Result.andThen]
theorem slice_frontI (A : Option Addr) (n c m : Nat) (hm : m ≤ c) (mI : Int) (e : mI = (m : Nat)) (w : World) : (Instr.slice 24 (.slice A n c) none (some (.int .i64 mI)) none).run Try.prog w = .ok (.slice A m c) w := by
  subst e; exact slice_front A n c m hm w
/-- What Body answers of a row, or of a part of it. -/
def bP (L0 L : List PT) : Except Nat (T1 × Nat) := bodyF (L0.length + 1) (L0.length + 2) L 0
theorem bP_len (L : List PT) : posE (bP L L) ≤ L.length := g2_le (g2_bodyF _ _) (Nat.zero_le _)
theorem bP_err {L : List PT} {n : Nat} (h : bP L L = .error n) (hn : n < L.length) : bP L (L.take (n + 1)) = .error n := g2_err (g2_bodyF _ _) (Nat.zero_le _) h hn
theorem bP_at {L : List PT} {m : Nat} (hm : m ≤ posE (bP L L)) : (∃ y j, bP L (L.take m) = .ok (y, j) ∧ j ≤ m) ∨ bP L (L.take m) = .error m :=
  g2_at (g2_bodyF _ _) (Nat.zero_le _) hm (Nat.le_trans hm (bP_len L))
theorem body_full {w : World} {A : Option Addr} {L : List PT} (h : RowAt w A L) (c : Nat) : Calls Try.prog 10 #[.slice A L.length c, .int .i64 0] w (ParR w (bP L L)) := Body_any h c (i := 0) (by omega) (g := L.length + 1) (by omega)
theorem body_cut {w : World} {A : Option Addr} {L : List PT} (h : RowAt w A L) (c : Nat) {m : Nat} (hm : m ≤ L.length) : Calls Try.prog 10 #[.slice A m c, .int .i64 0] w (ParR w (bP L (L.take m))) := by
  have := Body_any (h.take hm) c (i := 0) (by omega) (g := L.length + 1) (by rw [List.length_take]; omega)
  rw [List.length_take, Nat.min_eq_left hm] at this
  exact this
abbrev wt1 : ByteArray := ⟨#[97, 32, 58, 61, 32, 49, 59, 59, 32, 102, 40, 120, 41]⟩
abbrev wt2 : ByteArray := ⟨#[73, 70, 32, 97, 32, 84, 72, 69, 78]⟩
def twoIs (r : Except Nat (T1 × Nat)) (j : Nat) : Bool := match r with
  | .ok ((_, .node _ _ (.node _ _ .no)), j') => decide (j' = j)
  | _ => false
def errIs7 (r : Except Nat (T1 × Nat)) (k : Nat) : Bool := match r with
  | .ok _ => false
  | .error k' => decide (k' = k)
theorem wrk1 : twoIs (bP (rowP wt1.data.toList) (rowP wt1.data.toList)) 9 = true := by decide +kernel
theorem wrk2 : errIs7 (bP (rowP wt2.data.toList) (rowP wt2.data.toList)) 3 = true := by decide +kernel
theorem twoIs_ok {r : Except Nat (T1 × Nat)} {j : Nat} (h : twoIs r j = true) : ∃ (d d0 : Nd) (k0 : Fo) (d1 : Nd) (k1 : Fo), r = .ok ((d, .node d0 k0 (.node d1 k1 .no)), j) := by
  unfold twoIs at h
  split at h
  · simp only [decide_eq_true_eq] at h
    subst h
    exact ⟨_, _, _, _, _, rfl⟩
  · cases h
theorem errIs7_ok {r : Except Nat (T1 × Nat)} {k : Nat} (h : errIs7 r k = true) : r = .error k := by
  unfold errIs7 at h
  cases r with
  | error k' => simp only [decide_eq_true_eq] at h; rw [h]
  | ok x => cases h
theorem two_len {S : Nat → Prop} {w : World} {d d0 d1 : Nd} {k0 k1 : Fo} {b : Nat} (h : RepS S w (.node d (.node d0 k0 (.node d1 k1 .no)) .no) [.pointer (some ⟨b, 0, none⟩)]) : ∃ A c, w.cell? ⟨b, 4, none⟩ = some (.slice A 2 c) ∧ b < w.heap.size := by
  unfold RepS at h
  obtain ⟨b', A, c, ks, vs', e, hS, ⟨h0, h1, h2, h3, h4⟩, _, hR, hk, _⟩ := h
  injection e with e _
  injection e with e
  injection e with e
  injection e with e
  subst e
  unfold RepS at hk
  obtain ⟨_, _, _, _, vs1, rfl, _, _, _, _, _, hk2⟩ := hk
  unfold RepS at hk2
  obtain ⟨_, _, _, _, vs2, rfl, _, _, _, _, _, hk3⟩ := hk2
  unfold RepS at hk3
  subst hk3
  exact ⟨A, c, h4, Tr.cell_lt h0⟩
theorem row_txt (s : ByteArray) (hs : s.size ≤ 9223372036854775800) (L : List PT) (hL : rowP s.data.toList = L) (w : World) : Calls Try.prog 9 #[.string s] w (RowR w L) := hL ▸ row_any s hs w
set_option maxRecDepth 100000 in
set_option maxHeartbeats 6400000 in
theorem works_any (w : World) : Calls Try.prog 8 #[] w fun e w' => e = .returned (.bool true) ∧ Below w.heap.size w w' := by
  obtain ⟨d, d0, k0, d1, k1, r1⟩ := twoIs_ok wrk1
  have r2 := errIs7_ok wrk2
  obtain ⟨L1, l1⟩ : ∃ L, rowP wt1.data.toList = L := ⟨_, rfl⟩
  obtain ⟨L2, l2⟩ : ∃ L, rowP wt2.data.toList = L := ⟨_, rfl⟩
  rw [l1] at r1
  rw [l2] at r2
  have Q1 := Lib.hid l1
  have Q2 := Lib.hid l2
  have R1 := Lib.hid r1
  have R2 := Lib.hid r2
  clear r1 r2 l1 l2
  have D1 := Lib.hid (row_txt wt1 (by decide) L1 Q1.out w)
  go_enter Try.func8, Try.ntmps8
  go_wp2_with fail
  ((with_reducible refine D1.out.mono ?_); rintro e w1 ⟨A1, c1, rfl, _, ha, hb⟩)
  have HB := Lib.hid hb
  have D2 := body_full ha c1
  rw [R1.out] at D2
  have D2 := Lib.hid D2
  clear ha hb D1
  go_wp2_with fail
  ((with_reducible refine D2.out.mono ?_); rintro e w2 ⟨b1, rfl, hr, hb⟩)
  have HB := Lib.hid (HB.out.trans (hb.mono HB.out.size))
  obtain ⟨A5, c5, g1, g2⟩ := two_len hr
  have G := Lib.hid (And.intro g1 g2)
  clear hr hb D2 g1 g2
  have D1 := Lib.hid (row_txt wt2 (by decide) L2 Q2.out w2)
  go_wp2_with fail
  ((with_reducible refine D1.out.mono ?_); rintro e w3 ⟨A2, c2, rfl, _, ha, hb⟩)
  have HB := Lib.hid (HB.out.trans (hb.mono HB.out.size))
  have HZ := Lib.hid hb
  have D2 := body_full ha c2
  rw [R2.out] at D2
  have D2 := Lib.hid D2
  clear ha hb D1
  go_wp2_with fail
  ((with_reducible refine D2.out.mono ?_); rintro e w4 ⟨rfl, hb⟩)
  have HB := Lib.hid (HB.out.trans (hb.mono HB.out.size))
  have HZ := Lib.hid (HZ.out.trans (hb.mono HZ.out.size))
  have h4 : w4.cell? ⟨b1, 4, none⟩ = some (.slice A5 2 c5) := (HZ.out.cell (p := ⟨b1, 4, none⟩) G.out.2).trans G.out.1
  have hb4 : b1 < w4.heap.size := Nat.lt_of_lt_of_le G.out.2 HZ.out.size
  clear hb D2 HZ
  go_wp2
  go_ret
  exact ⟨rfl, HB.out⟩
set_option maxRecDepth 100000 in
set_option maxHeartbeats 3200000 in
theorem cuts_walk (s : ByteArray) (a2 : Int) (w : World) (w0 : s.size ≤ 9223372036854775807) (h2 : 0 ≤ a2 ∧ a2 ≤ 65535) :
    Calls Try.prog 5 #[.string s, .int .u16 a2] w fun e w' => e = .returned (.bool true) ∧ Below w.heap.size w w' := by
  have HV := heavy_any s w
  by_cases hh : 2048 < s.size
  · rw [decide_eq_true hh] at HV
    have HV := Lib.hid HV
    have WK := Lib.hid (works_any w)
    clear hh
    go_enter Try.func5, Try.ntmps5
    go_wp2_with fail
    ((with_reducible refine HV.out.mono ?_); rintro e w1 ⟨rfl, rfl⟩)
    go_wp2_with fail
    ((with_reducible refine WK.out.mono ?_); rintro e w1 ⟨rfl, hb⟩)
    go_wp2
    go_ret
    exact ⟨rfl, hb⟩
  · rw [decide_eq_false hh] at HV
    have HV := Lib.hid HV
    have D0 := row_any s (by omega) w
    have hL := rowP_len s.data.toList
    generalize rowP s.data.toList = L at *
    have D0 := Lib.hid D0
    go_enter Try.func5, Try.ntmps5
    go_wp2_with fail
    ((with_reducible refine HV.out.mono ?_); rintro e w1 ⟨rfl, rfl⟩)
    go_wp2_with fail
    ((with_reducible refine D0.out.mono ?_); rintro e w1 ⟨A, c, rfl, hc, ha, hb⟩)
    have HB := Lib.hid hb
    have HA := Lib.hid ha
    have D1 := Lib.hid (body_full ha c)
    clear hb ha D0
    -- TAIL
    have HAT := Lib.hid (fun m => bP_at (L := L) (m := m))
    have HER := Lib.hid (fun n => bP_err (L := L) (n := n))
    have hlen := bP_len L
    cases hx : bP L L with
    | ok r =>
      obtain ⟨x, n⟩ := r
      have D1 := Lib.hid (show Calls Try.prog 10 #[.slice A L.length c, .int .i64 0] _ (ParR _ (.ok (x, n))) from hx ▸ D1.out)
      have hn : n ≤ L.length := by rw [hx] at hlen; exact hlen
      have HAT := Lib.hid (show ∀ m, m ≤ n → _ from fun m hm => HAT.out m (by rw [hx]; exact hm))
      have y0 : (0 : Int) ≤ (n : Int) := by omega
      have y1 : ¬ (L.length < n) := by omega
      have y2 : ¬ ((n : Int) < 0) := by omega
      clear hx hlen HER
      go_wp2_with fail
      ((with_reducible refine D1.out.mono ?_); rintro e w2 ⟨b2, rfl, _, hb⟩)
      have HB := Lib.hid (HB.out.trans (hb.mono HB.out.size))
      have HA := Lib.hid (HA.out.below hb)
      clear hb D1
      obtain ⟨m, hm⟩ : ∃ m : Nat, a2 % ((n : Int) + 1) = (m : Int) := ⟨(a2 % ((n : Int) + 1)).toNat, by have := Int.emod_nonneg a2 (show (n : Int) + 1 ≠ 0 by omega); omega⟩
      have hmn : m ≤ n := by have := Int.emod_lt_of_pos a2 (show (0 : Int) < (n : Int) + 1 by omega); omega
      have hsl := fun w => slice_frontI A L.length c m (by omega) (a2 % ((n : Int) + 1)) hm w
      have D2 := Lib.hid (body_cut HA.out c (m := m) (by omega))
      have z0 : 0 ≤ a2 % ((n : Int) + 1) := by omega
      have HM := Lib.hid hm
      have HQ := HAT.out m hmn
      clear hm
      rcases HQ with ⟨y, j, hy, hj⟩ | hy
      · have D2 := Lib.hid (show Calls Try.prog 10 #[.slice A m c, .int .i64 0] _ (ParR _ (.ok (y, j))) from hy ▸ D2.out)
        have z1 : (j : Int) ≤ a2 % ((n : Int) + 1) := by rw [HM.out]; omega
        clear hy
        go_wp2_with fail
        ((with_reducible refine D2.out.mono ?_); rintro e w3 ⟨b3, rfl, _, hb⟩)
        have HB := Lib.hid (HB.out.trans (hb.mono HB.out.size))
        clear hb hsl
        have WK := Lib.hid (works_any w3)
        go_wp2_with fail
        ((with_reducible refine WK.out.mono ?_); rintro e w9 ⟨rfl, hb⟩)
        have HB := Lib.hid (HB.out.trans (hb.mono HB.out.size))
        clear hb WK
        go_wp2
        go_ret
        exact ⟨rfl, HB.out⟩
      · have D2 := Lib.hid (show Calls Try.prog 10 #[.slice A m c, .int .i64 0] _ (ParR _ (.error m)) from hy ▸ D2.out)
        have z1 : ((m : Int) == a2 % ((n : Int) + 1)) = true := by rw [HM.out]; exact beq_self_eq_true _
        clear hy
        go_wp2_with fail
        ((with_reducible refine D2.out.mono ?_); rintro e w3 ⟨rfl, hb⟩)
        have HB := Lib.hid (HB.out.trans (hb.mono HB.out.size))
        clear hb hsl
        have WK := Lib.hid (works_any w3)
        go_wp2_with fail
        ((with_reducible refine WK.out.mono ?_); rintro e w9 ⟨rfl, hb⟩)
        have HB := Lib.hid (HB.out.trans (hb.mono HB.out.size))
        clear hb WK
        go_wp2
        go_ret
        exact ⟨rfl, HB.out⟩
    | error n =>
      have D1 := Lib.hid (show Calls Try.prog 10 #[.slice A L.length c, .int .i64 0] _ (ParR _ (.error n)) from hx ▸ D1.out)
      have hn : n ≤ L.length := by rw [hx] at hlen; exact hlen
      have HAT := Lib.hid (show ∀ m, m ≤ n → _ from fun m hm => HAT.out m (by rw [hx]; exact hm))
      have HE2 := Lib.hid (show n < L.length → _ from fun h => HER.out n hx h)
      have y0 : (0 : Int) ≤ (n : Int) := by omega
      have y1 : ¬ (L.length < n) := by omega
      have y2 : ¬ ((n : Int) < 0) := by omega
      clear hx hlen HER
      go_wp2_with fail
      ((with_reducible refine D1.out.mono ?_); rintro e w2 ⟨rfl, hb⟩)
      have HB := Lib.hid (HB.out.trans (hb.mono HB.out.size))
      have HA := Lib.hid (HA.out.below hb)
      clear hb D1
      by_cases hlt : n < L.length
      · have h3 := HE2.out hlt
        have D2 := body_cut HA.out c (m := n + 1) (by omega)
        rw [h3] at D2
        have D2 := Lib.hid D2
        have hsl0 := fun w => slice_frontI A L.length c (n + 1) (by omega) ((n : Int) + 1) (by omega) w
        clear h3 HE2
        go_wp2_with fail
        ((with_reducible refine D2.out.mono ?_); rintro e w4 ⟨rfl, hb⟩)
        have HB := Lib.hid (HB.out.trans (hb.mono HB.out.size))
        have HA := Lib.hid (HA.out.below hb)
        clear hb D2 hsl0
        obtain ⟨m, hm⟩ : ∃ m : Nat, a2 % ((n : Int) + 1) = (m : Int) := ⟨(a2 % ((n : Int) + 1)).toNat, by have := Int.emod_nonneg a2 (show (n : Int) + 1 ≠ 0 by omega); omega⟩
        have hmn : m ≤ n := by have := Int.emod_lt_of_pos a2 (show (0 : Int) < (n : Int) + 1 by omega); omega
        have hsl := fun w => slice_frontI A L.length c m (by omega) (a2 % ((n : Int) + 1)) hm w
        have D2 := Lib.hid (body_cut HA.out c (m := m) (by omega))
        have z0 : 0 ≤ a2 % ((n : Int) + 1) := by omega
        have HM := Lib.hid hm
        have HQ := HAT.out m hmn
        clear hm
        rcases HQ with ⟨y, j, hy, hj⟩ | hy
        · have D2 := Lib.hid (show Calls Try.prog 10 #[.slice A m c, .int .i64 0] _ (ParR _ (.ok (y, j))) from hy ▸ D2.out)
          have z1 : (j : Int) ≤ a2 % ((n : Int) + 1) := by rw [HM.out]; omega
          clear hy
          go_wp2_with fail
          ((with_reducible refine D2.out.mono ?_); rintro e w3 ⟨b3, rfl, _, hb⟩)
          have HB := Lib.hid (HB.out.trans (hb.mono HB.out.size))
          clear hb hsl
          have WK := Lib.hid (works_any w3)
          go_wp2_with fail
          ((with_reducible refine WK.out.mono ?_); rintro e w9 ⟨rfl, hb⟩)
          have HB := Lib.hid (HB.out.trans (hb.mono HB.out.size))
          clear hb WK
          go_wp2
          go_ret
          exact ⟨rfl, HB.out⟩
        · have D2 := Lib.hid (show Calls Try.prog 10 #[.slice A m c, .int .i64 0] _ (ParR _ (.error m)) from hy ▸ D2.out)
          have z1 : ((m : Int) == a2 % ((n : Int) + 1)) = true := by rw [HM.out]; exact beq_self_eq_true _
          clear hy
          go_wp2_with fail
          ((with_reducible refine D2.out.mono ?_); rintro e w3 ⟨rfl, hb⟩)
          have HB := Lib.hid (HB.out.trans (hb.mono HB.out.size))
          clear hb hsl
          have WK := Lib.hid (works_any w3)
          go_wp2_with fail
          ((with_reducible refine WK.out.mono ?_); rintro e w9 ⟨rfl, hb⟩)
          have HB := Lib.hid (HB.out.trans (hb.mono HB.out.size))
          clear hb WK
          go_wp2
          go_ret
          exact ⟨rfl, HB.out⟩
      · clear HE2
        obtain ⟨m, hm⟩ : ∃ m : Nat, a2 % ((n : Int) + 1) = (m : Int) := ⟨(a2 % ((n : Int) + 1)).toNat, by have := Int.emod_nonneg a2 (show (n : Int) + 1 ≠ 0 by omega); omega⟩
        have hmn : m ≤ n := by have := Int.emod_lt_of_pos a2 (show (0 : Int) < (n : Int) + 1 by omega); omega
        have hsl := fun w => slice_frontI A L.length c m (by omega) (a2 % ((n : Int) + 1)) hm w
        have D2 := Lib.hid (body_cut HA.out c (m := m) (by omega))
        have z0 : 0 ≤ a2 % ((n : Int) + 1) := by omega
        have HM := Lib.hid hm
        have HQ := HAT.out m hmn
        clear hm
        rcases HQ with ⟨y, j, hy, hj⟩ | hy
        · have D2 := Lib.hid (show Calls Try.prog 10 #[.slice A m c, .int .i64 0] _ (ParR _ (.ok (y, j))) from hy ▸ D2.out)
          have z1 : (j : Int) ≤ a2 % ((n : Int) + 1) := by rw [HM.out]; omega
          clear hy
          go_wp2_with fail
          ((with_reducible refine D2.out.mono ?_); rintro e w3 ⟨b3, rfl, _, hb⟩)
          have HB := Lib.hid (HB.out.trans (hb.mono HB.out.size))
          clear hb hsl
          have WK := Lib.hid (works_any w3)
          go_wp2_with fail
          ((with_reducible refine WK.out.mono ?_); rintro e w9 ⟨rfl, hb⟩)
          have HB := Lib.hid (HB.out.trans (hb.mono HB.out.size))
          clear hb WK
          go_wp2
          go_ret
          exact ⟨rfl, HB.out⟩
        · have D2 := Lib.hid (show Calls Try.prog 10 #[.slice A m c, .int .i64 0] _ (ParR _ (.error m)) from hy ▸ D2.out)
          have z1 : ((m : Int) == a2 % ((n : Int) + 1)) = true := by rw [HM.out]; exact beq_self_eq_true _
          clear hy
          go_wp2_with fail
          ((with_reducible refine D2.out.mono ?_); rintro e w3 ⟨rfl, hb⟩)
          have HB := Lib.hid (HB.out.trans (hb.mono HB.out.size))
          clear hb hsl
          have WK := Lib.hid (works_any w3)
          go_wp2_with fail
          ((with_reducible refine WK.out.mono ?_); rintro e w9 ⟨rfl, hb⟩)
          have HB := Lib.hid (HB.out.trans (hb.mono HB.out.size))
          clear hb WK
          go_wp2
          go_ret
          exact ⟨rfl, HB.out⟩
theorem cuts_law (a0 : ByteArray) (a2 : Int) (w0 : a0.size ≤ maxLen) (w2 : (Lit.int .u16 a2).wf = true) (w : World) :
    Calls Try.prog 5 #[.string a0, .int .u16 a2] w fun e w' => e = .returned (.bool true) ∧ Below w.heap.size w w' := by
  have b2 := bounds_u16 w2
  exact cuts_walk a0 a2 w (by unfold maxLen at w0; omega) ⟨by omega, by omega⟩
end Go.Proofs.Ytecmjhohniipoaa.St
