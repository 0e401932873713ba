/- LexBlanks: the walk. -/
import Derived.Test.YtkiedbanobjmlaaDoorL22
set_option linter.unusedSimpArgs false
set_option linter.unusedVariables false
namespace Go.Proofs.YtkiedbanobjmlaaDoor.Lx
open Go.RowKit
open Pl Fl
attribute [local go_sem] run_store_complexL

set_option maxRecDepth 100000 in
set_option maxHeartbeats 3200000 in
theorem blanks_works (s : ByteArray) {bl : List Nat} {A : Option Addr} {c : Nat} {w : World} (E : EnvJ w) (h : 2048 < s.size ∨ 300 < bl.length) : Calls Tryd.prog 6 #[.string s, .slice A bl.length c] w fun e w' => e = .returned (.bool true) ∧ Below w.heap.size w w' := by
  have HWK := Lib.hid (works_any E)
  clear E
  by_cases h1 : 2048 < s.size
  · have x0 : (2048 : Int) < (s.size : Int) := by omega
    clear h
    go_enter Tryd.func6, Tryd.ntmps6
    go_wp2_with fail
    refine HWK.out.mono ?_
    rintro e w1 ⟨rfl, hb⟩
    have HB := Lib.hid hb
    clear hb
    go_wp2
    go_ret
    exact ⟨rfl, HB.out⟩
  · have x0 : ¬ (2048 : Int) < (s.size : Int) := by omega
    have x0b : decide ((2048 : Int) < (s.size : Int)) = false := decide_eq_false x0
    have x1 : (300 : Int) < (bl.length : Int) := by omega
    clear h
    go_enter Tryd.func6, Tryd.ntmps6
    go_wp2_with fail
    refine HWK.out.mono ?_
    rintro e w1 ⟨rfl, hb⟩
    have HB := Lib.hid hb
    clear hb
    go_wp2
    go_ret
    exact ⟨rfl, HB.out⟩
set_option maxRecDepth 100000 in
set_option maxHeartbeats 6400000 in
theorem blanks_walk (s : ByteArray) {bl : List Nat} {A : Option Addr} {c : Nat} {w : World} (HB0 : Bs w A c bl) (E : EnvJ w) : Calls Tryd.prog 6 #[.string s, .slice A bl.length c] w fun e w' => e = .returned (.bool true) ∧ Below w.heap.size w w' := by
  by_cases hbig : 2048 < s.size ∨ 300 < bl.length
  · exact blanks_works s E hbig
  have x0 : ¬ (2048 : Int) < (s.size : Int) := by omega
  have x0b : decide ((2048 : Int) < (s.size : Int)) = false := decide_eq_false x0
  have x1 : ¬ (300 : Int) < (bl.length : Int) := by omega
  have hs2 : s.size ≤ 2048 := by omega
  have hbl : bl.length ≤ 300 := by omega
  have HBS := Lib.hid HB0
  have HE := Lib.hid E
  have HS := Lib.hid (Scan_any s (by omega) E.toEnvS)
  have HSR := Lib.hid (fun l (h : scanL s.data.toList = .ok l) => src_of h)
  have hsl : s.data.toList.length = s.size := by simp
  clear HB0 E hbig
  generalize hsrc : s.data.toList = src at *
  clear hsrc
  go_enter Tryd.func6, Tryd.ntmps6
  go_wp2_with fail
  refine HS.out.mono ?_
  rintro e w1 h1
  cases hsc : scanL src with
  | error ik =>
    obtain ⟨i, k⟩ := ik
    rw [hsc] at h1
    obtain ⟨rfl, hb1⟩ := h1
    have HB1 := Lib.hid hb1
    have HWK := Lib.hid (works_any (HE.out.below HB1.out))
    have k0 : ((k : Int) != 0) = true := by
      have := scanL_err hsc
      simp only [bne_iff_ne, ne_eq]
      omega
    clear hb1 hsc
    go_wp2_with fail
    refine HWK.out.mono ?_
    rintro e w2 ⟨rfl, hb2⟩
    have HB2 := Lib.hid (HB1.out.trans (hb2.mono HB1.out.size))
    clear hb2
    go_wp2
    go_ret
    exact ⟨rfl, HB2.out⟩
  | ok l =>
    rw [hsc] at h1
    obtain ⟨g1, c1, rfl, hr1, hb1⟩ := h1
    have HB1 := Lib.hid hb1
    have HR1 := Lib.hid (own_reads (src := src) hr1)
    have HSC := Lib.hid (HSR.out l hsc)
    have hln : l.length ≤ 2049 := by have := HSC.out.len; omega
    have hal := (Below.refl w1.heap.size w1).alloc (Nat.le_refl _) (.cells #[.string ⟨#[32]⟩, .string ⟨#[10]⟩, .string ⟨#[9, 13]⟩, .string ⟨#[40, 42, 42, 41]⟩, .string ⟨#[40, 42, 32, 97, 32, 40, 42, 32, 98, 32, 42, 41, 32, 10, 32, 99, 32, 42, 41]⟩, .string ⟨#[32, 40, 42, 39, 42, 41, 32]⟩] 9)
    have HBT := Lib.hid (HB1.out.trans (hal.mono HB1.out.size))
    have htop := fun (j : Nat) => cell_top (W := w1) (cs := #[.string ⟨#[32]⟩, .string ⟨#[10]⟩, .string ⟨#[9, 13]⟩, .string ⟨#[40, 42, 42, 41]⟩, .string ⟨#[40, 42, 32, 97, 32, 40, 42, 32, 98, 32, 42, 41, 32, 10, 32, 99, 32, 42, 41]⟩, .string ⟨#[32, 40, 42, 39, 42, 41, 32]⟩]) (t := 9) rfl j
    have hltg : w1.heap.size < (w1.alloc (.cells #[.string ⟨#[32]⟩, .string ⟨#[10]⟩, .string ⟨#[9, 13]⟩, .string ⟨#[40, 42, 42, 41]⟩, .string ⟨#[40, 42, 32, 97, 32, 40, 42, 32, 98, 32, 42, 41, 32, 10, 32, 99, 32, 42, 41]⟩, .string ⟨#[32, 40, 42, 39, 42, 41, 32]⟩] 9)).heap.size := by simp
    have HTP := Lib.hid (fun (wr : World) (hb : Below (w1.alloc (.cells #[.string ⟨#[32]⟩, .string ⟨#[10]⟩, .string ⟨#[9, 13]⟩, .string ⟨#[40, 42, 42, 41]⟩, .string ⟨#[40, 42, 32, 97, 32, 40, 42, 32, 98, 32, 42, 41, 32, 10, 32, 99, 32, 42, 41]⟩, .string ⟨#[32, 40, 42, 39, 42, 41, 32]⟩] 9)).heap.size (w1.alloc (.cells #[.string ⟨#[32]⟩, .string ⟨#[10]⟩, .string ⟨#[9, 13]⟩, .string ⟨#[40, 42, 42, 41]⟩, .string ⟨#[40, 42, 32, 97, 32, 40, 42, 32, 98, 32, 42, 41, 32, 10, 32, 99, 32, 42, 41]⟩, .string ⟨#[32, 40, 42, 39, 42, 41, 32]⟩] 9)) wr) (k : Nat) (hk : k < 6) => show wr.cell? ⟨w1.heap.size, k, none⟩ = some (.string (bt (blkL k))) by
      rw [hb.cell (p := ⟨w1.heap.size, k, none⟩) hltg, htop k]
      rcases (show k = 0 ∨ k = 1 ∨ k = 2 ∨ k = 3 ∨ k = 4 ∨ k = 5 by omega) with rfl | rfl | rfl | rfl | rfl | rfl <;> rfl)
    have HR1b := Lib.hid (Reads.rowBelow (src := src) HR1.out hal)
    clear hal htop hltg hr1 hb1 HS HSR HR1
    go_wp2
    clear hsc
    generalize w1.alloc (.cells #[.string ⟨#[32]⟩, .string ⟨#[10]⟩, .string ⟨#[9, 13]⟩, .string ⟨#[40, 42, 42, 41]⟩, .string ⟨#[40, 42, 32, 97, 32, 40, 42, 32, 98, 32, 42, 41, 32, 10, 32, 99, 32, 42, 41]⟩, .string ⟨#[32, 40, 42, 39, 42, 41, 32]⟩] 9) = wB at *
    clear x0 x0b x1
    go_loopg [9, 10] l.length (fun gh sv si wr => ∃ (i : Nat) (tb : ByteArray), sv = .string tb ∧ si = .int .i64 (i : Nat) ∧ i ≤ l.length ∧ l.length - i ≤ gh ∧ Hid (tb = bt (accB bl l i)) ∧ Hid (Below wB.heap.size wB wr))
    case atStart => exact ⟨0, ⟨#[]⟩, rfl, rfl, by omega, by omega, Lib.hid rfl, Lib.hid (Below.refl _ _)⟩
    case round =>
      obtain ⟨i, tb, rfl, rfl, hi1, hi2, htb, hb⟩ := hrel
      have hlen := accB_len bl (l := l) i hi1
      have hsum := sum_take_le (fun t => (txt t.1).length + 1) l i
      have hss := HSC.out.sum
      have htbs : tb.size ≤ 50000 := by rw [htb.out, bt_size]; omega
      clear hlen hsum
      by_cases hi : i < l.length
      · obtain ⟨b1, o1, e1, l1, p0, p1, p2, p3, p4⟩ := tok_spot (((HR1b.out.below hb.out).more hb.out.size)) hi
        have hstep := accB_step bl hi
        have hmem := List.getElem_mem hi
        have hts := le_sum (fun t => (txt t.1).length + 1) l _ hmem
        have HOK := Lib.hid (fun (h : l[i].1.kind ≠ 0) => rText_ok ((HSC.out.ok _ hmem h).toR (by omega)))
        have htl : (txt l[i].1).length ≤ 10000 := by omega
        injection e1 with e1
        injection e1 with e1 e2 e3
        subst e1
        subst e2
        simp only [Nat.zero_add] at p0 p1 p2 p3 p4
        unfold C at p1 p2
        have HST := Lib.hid hstep
        clear hstep hts hss hmem
        generalize hti : l[i] = ti at *
        obtain ⟨⟨tk, tt, tn⟩, ia, ib⟩ := ti
        dsimp only at p0 p1 p2 p3 p4 HOK htl
        clear hti
        by_cases h0 : tk = 0
        · subst h0
          have HN := Lib.hid (show tb = bt (accB bl l (i + 1)) by rw [HST.out, htb.out]; unfold addB; rw [if_pos rfl, List.append_nil])
          go_wp2
          go_roundg (l.length - i - 1)
          case rel => exact ⟨i + 1, tb, rfl, by rfl, by omega, by omega, HN, hb⟩
          case measure => omega
        · have k0 : ((tk : Int) == 0) = false := by simp only [beq_eq_false_iff_ne, ne_eq]; omega
          have HTX := Lib.hid (HOK.out h0 (at_ src ia) (at_ src ib))
          simp only [Tk.val, Tk.vals, C] at HTX
          have HAD := Lib.hid (show addB bl (⟨tk, tt, tn⟩, ia, ib) i = txt ⟨tk, tt, tn⟩ ++ blkL (kf bl i) by unfold addB; rw [if_neg h0])
          have hk6 := kf_lt bl i
          have hbk := blk_len hk6
          have htz : (bt (txt ⟨tk, tt, tn⟩)).size ≤ 10000 := by rw [bt_size]; exact htl
          have hbz : (bt (blkL (kf bl i))).size ≤ 19 := by rw [bt_size]; exact hbk
          have z1 : ¬ 9223372036854775807 < tb.size + (bt (txt ⟨tk, tt, tn⟩)).size := by omega
          have z2 : ¬ 9223372036854775807 < tb.size + (bt (txt ⟨tk, tt, tn⟩)).size + (bt (blkL (kf bl i))).size := by omega
          clear hbk htl HOK
          go_wp2_with fail
          refine (HTX.out _).mono ?_
          rintro e w3 ⟨rfl, hb3⟩
          have HB3 := Lib.hid (hb.out.trans (hb3.mono hb.out.size))
          have hc := HTP.out w3 HB3.out (kf bl i) hk6
          have HN := Lib.hid (show tb ++ bt (txt ⟨tk, tt, tn⟩) ++ bt (blkL (kf bl i)) = bt (accB bl l (i + 1)) by
            rw [HST.out, HAD.out, htb.out]; apply bytes_ext; simp [bt])
          clear hb3 HTX
          by_cases hib : i < bl.length
          · have hkv : kf bl i = bl[i] % 6 := by unfold kf; rw [dif_pos hib]
            obtain ⟨b2, o2, u2, eA, l2, hu2, q0⟩ := ((HBS.out.reads.below (HBT.out.trans (HB3.out.mono HBT.out.size)))).spot hib
            rw [List.getElem?_map, List.getElem?_eq_getElem hib] at hu2
            have hu2 := Option.some.inj hu2
            subst hu2
            have hsm := HBS.out.small _ (List.getElem_mem hib)
            subst eA
            generalize kf bl i = k at *
            generalize bl[i] = y at *
            have t1 : (y : Int).tmod 6 = (k : Nat) := by rw [hkv]; rfl
            have t2 : (y : Int) % 6 = (k : Nat) := by omega
            have x3 : (i : Int) < (bl.length : Int) := by omega
            have x4 : (0 : Int) ≤ (k : Int) := by omega
            have x5 : (k : Int) < 6 := by omega
            have HHV := Lib.hid hkv
            clear hkv hib
            go_wp2
            go_roundg (l.length - i - 1)
            case rel => exact ⟨i + 1, _, rfl, by rfl, by omega, by omega, HN, HB3⟩
            case measure => omega
          · have hkv : kf bl i = 0 := by unfold kf; rw [dif_neg hib]
            rw [hkv] at hc z2 hbz
            rw [hkv] at HN
            have x3 : ¬ (i : Int) < (bl.length : Int) := by omega
            clear hkv hib
            go_wp2
            go_roundg (l.length - i - 1)
            case rel => exact ⟨i + 1, _, rfl, by rfl, by omega, by omega, HN, HB3⟩
            case measure => omega
      · have hie : i = l.length := by omega
        subst hie
        have HBR := Lib.hid (HBT.out.trans (hb.out.mono HBT.out.size))
        have HS2 := Lib.hid (Scan_any tb (by omega) (HE.out.below HBR.out).toEnvS)
        have hlx : lex tb.data.toList = some (real l) := by
          have h2 := lex_accB bl HSC.out.ok l.length (Nat.le_refl _) []
          rw [List.append_nil, List.take_length] at h2
          rw [htb.out, show (bt (accB bl l l.length)).data.toList = accB bl l l.length by simp [bt], h2]
          show some (real l ++ []) = _
          rw [List.append_nil]
        have hsz : tb.data.toList.length = tb.size := by simp
        by_cases h16 : tb.size ≤ 16384
        · obtain ⟨m, hm, hmm⟩ := scan_of_lex hlx (by omega)
          have hmm2 : m.map (·.1) = l.map (·.1) := by rw [hmm, HSC.out.real]
          rw [hm] at HS2
          have HMM := Lib.hid hmm2
          clear hlx hm hmm hmm2
          go_wp2_with fail
          refine HS2.out.mono ?_
          rintro e w4 ⟨g4, c4, rfl, hr4, hb4⟩
          have HB4 := Lib.hid (HBR.out.trans (hb4.mono HBR.out.size))
          have HAL := Lib.hid (Alike_any (s1 := src) (s2 := tb.data.toList) (c1 := c1) (c2 := c4) HMM.out (by omega) (Reads.rowBelow (src := src) (Reads.rowBelow (src := src) HR1b.out hb.out) hb4) (own_reads (src := src) hr4))
          clear hr4 hb4
          go_wp2_with fail
          refine HAL.out.mono ?_
          rintro e w5 ⟨rfl, hb5⟩
          have HB5 := Lib.hid (HB4.out.trans (hb5.mono HB4.out.size))
          have HWK := Lib.hid (works_any (HE.out.below HB5.out))
          clear hb5
          go_wp2_with fail
          refine HWK.out.mono ?_
          rintro e w6 ⟨rfl, hb6⟩
          have HB6 := Lib.hid (HB5.out.trans (hb6.mono HB5.out.size))
          clear hb6
          go_wp2
          go_ret
          exact ⟨rfl, HB6.out⟩
        · have hm : scanL tb.data.toList = .error (0, 5) := by unfold scanL; rw [if_pos (by omega)]
          rw [hm] at HS2
          have y1 : (16384 : Int) < (tb.size : Int) := by omega
          clear hlx hm
          go_wp2_with fail
          refine HS2.out.mono ?_
          rintro e w4 ⟨rfl, hb4⟩
          have HB4 := Lib.hid (HBR.out.trans (hb4.mono HBR.out.size))
          have HWK := Lib.hid (works_any (HE.out.below HB4.out))
          clear hb4
          go_wp2_with fail
          refine HWK.out.mono ?_
          rintro e w6 ⟨rfl, hb6⟩
          have HB6 := Lib.hid (HB4.out.trans (hb6.mono HB4.out.size))
          clear hb6
          go_wp2
          go_ret
          exact ⟨rfl, HB6.out⟩
end Go.Proofs.YtkiedbanobjmlaaDoor.Lx
