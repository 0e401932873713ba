/- LexCuts: the walk where the source has no error. -/
import Derived.Test.YtkiedbanobjmlaaDoorL30
set_option linter.unusedSimpArgs false
set_option linter.unusedVariables false
namespace Go.Proofs.YtkiedbanobjmlaaDoor.Lx
open Go.RowKit
open Pl Fl
attribute [local go_sem] run_store_complexL

theorem scanL_last {s : List UInt8} {l : List Tok} (h : scanL s = .ok l) : ∃ h0 : 0 < l.length, (l[l.length - 1]'(by omega)).1.kind = 0 := by
  obtain ⟨l', j, rfl, _⟩ := scanL_ok h
  refine ⟨by simp, ?_⟩
  simp [noTk]
theorem Chain.at {hi e : Nat} {l : List Tok} {i : Nat} (h : i < l.length) (c : Chain hi e (l.drop i)) : e ≤ l[i].2.1 ∧ l[i].2.1 ≤ l[i].2.2 ∧ l[i].2.2 ≤ hi ∧ (l[i].2.1 = l[i].2.2 ↔ l[i].1.kind = 0) ∧ Chain hi l[i].2.2 (l.drop (i + 1)) := by
  rw [List.drop_eq_getElem_cons h] at c
  exact c
theorem bef_no {src : List UInt8} (hs : src.length ≤ 1024) {a e : Nat} (h : e ≤ a) (w : World) : Calls Tryd.prog 24 #[.complex .f64 (fl (at_ src a).1) (fl (at_ src a).2), .complex .f64 (fl (at_ src e).1) (fl (at_ src e).2)] w fun e w' => e = .returned (.bool false) ∧ w = w' := by
  have h1 := at_is src (by omega) a
  have h2 := at_is src (by omega) e
  have := Before_any (at_ src a) (at_ src e) w (by omega) (by omega) (by omega) (by omega)
  rw [bef_at (by omega) h] at this
  exact this
set_option maxRecDepth 100000 in
set_option maxHeartbeats 6400000 in
theorem cuts_good (s t : ByteArray) {w : World} (E : EnvJ w) (hs : s.size ≤ 1024) (ht : t.size ≤ 1024) {l : List Tok} (hsc : scanL s.data.toList = .ok l) : Calls Tryd.prog 8 #[.string s, .string t] w fun e w' => e = .returned (.bool true) ∧ Below w.heap.size w w' := by
  have x0 : ¬ (1024 : Int) < (s.size : Int) := by omega
  have x1 : ¬ (1024 : Int) < (t.size : Int) := by omega
  have HE := Lib.hid E
  have HS := Lib.hid (Scan_any s (by omega) E.toEnvS)
  have hsl : s.data.toList.length = s.size := by simp
  obtain ⟨hl0, hlast⟩ := scanL_last hsc
  have hln := scanL_len hsc
  have HCH := Lib.hid (scanL_chain hsc)
  have HIN := Lib.hid (fun (k : Nat) (hk : k ≤ s.data.toList.length) (wx : World) => in_at s rfl (by omega) k hk wx)
  have HBF := Lib.hid (fun (a e : Nat) (h : e ≤ a) (wx : World) => bef_no (src := s.data.toList) (by omega) h wx)
  have HLST := Lib.hid hlast
  rw [hsc] at HS
  generalize hsrc : s.data.toList = src at *
  clear hsrc hsc E hlast x1
  have hlz : (0 : Int) < (l.length : Int) := by omega
  go_enter Tryd.func8, Tryd.ntmps8
  have x1 : ¬ (1024 : Int) < (t.size : Int) := by omega
  go_wp2_with fail
  refine HS.out.mono ?_
  rintro e w1 ⟨g1, c1, rfl, hr1, hb1⟩
  have HB1 := Lib.hid hb1
  have HR1 := Lib.hid (own_reads (src := src) hr1)
  have HBG := Lib.hid (Begin_any w1)
  clear hb1 hr1 HS
  go_wp2_with fail
  refine HBG.out.mono ?_
  rintro e w2 ⟨rfl, rfl⟩
  clear HBG
  go_wp2_with fail
  go_loopg [13, 14] l.length (fun gh lv si wr => ∃ (i e : Nat), lv = .complex .f64 (fl (at_ src e).1) (fl (at_ src e).2) ∧ si = .int .i64 (i : Nat) ∧ i ≤ l.length ∧ l.length - i ≤ gh ∧ Hid (Chain src.length e (l.drop i)) ∧ Hid (Below w1.heap.size w1 wr))
  case atStart => exact ⟨0, 0, rfl, rfl, by omega, by omega, HCH, Lib.hid (Below.refl _ _)⟩
  case round =>
    obtain ⟨i, e, rfl, rfl, hi1, hi2, hch, hb⟩ := hrel
    by_cases hi : i < l.length
    · obtain ⟨b1, o1, e1, l1, p0, p1, p2, p3, p4⟩ := tok_spot (((HR1.out.below hb.out).more hb.out.size)) hi
      obtain ⟨ca, cb, cc, cd, ce⟩ := Chain.at hi hch.out
      have HCE := Lib.hid ce
      injection e1 with e1
      injection e1 with e1 e2 e3
      subst e1
      subst e2
      simp only [Nat.zero_add] at p0 p1 p2 p3 p4
      unfold C at p1 p2
      generalize l[i] = ti at *
      obtain ⟨⟨tk, tt, tn⟩, a, b⟩ := ti
      dsimp only at p0 p1 p2 p3 p4 ca cb cc cd HCE
      have HA := Lib.hid (HIN.out a (by omega))
      have HB := Lib.hid (HIN.out b (by omega))
      have HF := Lib.hid (HBF.out a e ca)
      have y0 : ¬ (b : Int) < (a : Int) := by omega
      clear ce p3 p4
      by_cases h0 : tk = 0
      · have h1 := cd.2 h0
        subst h0
        subst h1
        clear cd
        go_wp2_with fail
        with_reducible refine (HA.out _).mono ?_
        rintro e w3 ⟨rfl, rfl⟩
        go_wp2_with fail
        with_reducible refine (HB.out _).mono ?_
        rintro e w3 ⟨rfl, rfl⟩
        go_wp2_with fail
        with_reducible refine (HF.out _).mono ?_
        rintro e w3 ⟨rfl, rfl⟩
        go_wp2_with fail
        go_roundg (l.length - i - 1)
        case rel => exact ⟨i + 1, a, rfl, by rfl, by omega, by omega, HCE, hb⟩
        case measure => omega
      · have h1 : ¬ a = b := fun h => h0 (cd.1 h)
        have t1 : ((a : Int) == (b : Int)) = false := by simp only [beq_eq_false_iff_ne, ne_eq]; omega
        have t2 : ((tk : Int) == 0) = false := by simp only [beq_eq_false_iff_ne, ne_eq]; omega
        clear cd
        go_wp2_with fail
        with_reducible refine (HA.out _).mono ?_
        rintro e w3 ⟨rfl, rfl⟩
        go_wp2_with fail
        with_reducible refine (HB.out _).mono ?_
        rintro e w3 ⟨rfl, rfl⟩
        go_wp2_with fail
        with_reducible refine (HF.out _).mono ?_
        rintro e w3 ⟨rfl, rfl⟩
        go_wp2_with fail
        go_roundg (l.length - i - 1)
        case rel => exact ⟨i + 1, b, rfl, by rfl, by omega, by omega, HCE, hb⟩
        case measure => omega
    · have hin : i = l.length := by omega
      subst hin
      obtain ⟨b1, o1, e1, l1, p0, p1, p2, p3, p4⟩ := tok_spot (i := l.length - 1) (((HR1.out.below hb.out).more hb.out.size)) (by omega)
      injection e1 with e1
      injection e1 with e1 e2 e3
      subst e1
      subst e2
      simp only [Nat.zero_add] at p0
      rw [HLST.out] at p0
      have y1 : (l.length : Int) - 1 = ((l.length - 1 : Nat) : Int) := by omega
      have HBE := Lib.hid (HB1.out.trans (hb.out.mono HB1.out.size))
      have HWK := Lib.hid (works_any (HE.out.below HBE.out))
      clear p1 p2 p3 p4 hi
      go_wp2_with fail
      refine HWK.out.mono ?_
      rintro e w4 ⟨rfl, hb4⟩
      have HB4 := Lib.hid (HBE.out.trans (hb4.mono HBE.out.size))
      clear hb4
      go_wp2
      go_ret
      exact ⟨rfl, HB4.out⟩
set_option maxRecDepth 100000 in
theorem cuts_walk (s t : ByteArray) {w : World} (E : EnvJ w) : Calls Tryd.prog 8 #[.string s, .string t] w fun e w' => e = .returned (.bool true) ∧ Below w.heap.size w w' := by
  by_cases hbig : 1024 < s.size ∨ 1024 < t.size
  · exact cuts_works s t E hbig
  · cases hsc : scanL s.data.toList with
    | ok l => exact cuts_good s t E (by omega) (by omega) hsc
    | error ik => exact cuts_bad s t E (by omega) (by omega) (i := ik.1) (k := ik.2) hsc
end Go.Proofs.YtkiedbanobjmlaaDoor.Lx
