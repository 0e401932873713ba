/- LexBack: the walk. -/
import Derived.Test.YtkiedbanobjmlaaDoorL25
set_option linter.unusedSimpArgs false
set_option linter.unusedVariables false
namespace Go.Proofs.YtkiedbanobjmlaaDoor.Lx
open Go.RowKit
open Pl Fl
attribute [local go_sem] run_store_complexL

set_option maxRecDepth 100000 in
set_option maxHeartbeats 6400000 in
theorem back_walk (s : ByteArray) {w : World} (E : EnvK w) : Calls Tryd.prog 5 #[.string s] w fun e w' => e = .returned (.bool true) ∧ Below w.heap.size w w' := by
  by_cases hbig : 4096 < s.size
  · have HWK := Lib.hid (works_any E.toEnvJ)
    have x0 : (4096 : Int) < (s.size : Int) := by omega
    clear E
    go_enter Tryd.func5, Tryd.ntmps5
    go_wp2_with fail
    refine HWK.out.mono ?_
    rintro e w1 ⟨rfl, hb⟩
    have HB := Lib.hid hb
    clear hb
    go_wp2
    go_ret
    exact ⟨rfl, HB.out⟩
  have x0 : ¬ (4096 : Int) < (s.size : Int) := by omega
  have hs2 : s.size ≤ 4096 := by omega
  have HE := Lib.hid E
  have HS := Lib.hid (Scan_any s (by omega) E.toEnvJ.toEnvS)
  have hsl : s.data.toList.length = s.size := by simp
  clear E hbig
  generalize hsrc : s.data.toList = src at *
  clear hsrc
  have HJF := Lib.hid (fun l (h : scanL src = .ok l) => join_fits h)
  have HJS := Lib.hid (fun l (h : scanL src = .ok l) => join_scan h (by omega))
  have HSR := Lib.hid (fun l (h : scanL src = .ok l) => src_of h)
  go_enter Tryd.func5, Tryd.ntmps5
  go_wp2_with fail
  refine HS.out.mono ?_
  rintro e w1 h1
  cases hsc : scanL src with
  | error ik =>
    obtain ⟨i, k⟩ := ik
    rw [hsc] at h1
    obtain ⟨rfl, hb1⟩ := h1
    have HB1 := Lib.hid hb1
    have HWK := Lib.hid (works_any (HE.out.below HB1.out).toEnvJ)
    have k0 : ((k : Int) != 0) = true := by
      have := scanL_err hsc
      simp only [bne_iff_ne, ne_eq]
      omega
    clear hb1 hsc
    go_wp2_with fail
    refine HWK.out.mono ?_
    rintro e w2 ⟨rfl, hb2⟩
    have HB2 := Lib.hid (HB1.out.trans (hb2.mono HB1.out.size))
    clear hb2
    go_wp2
    go_ret
    exact ⟨rfl, HB2.out⟩
  | ok l =>
    rw [hsc] at h1
    obtain ⟨g1, c1, rfl, hr1, hb1⟩ := h1
    have HB1 := Lib.hid hb1
    have HR1 := Lib.hid (own_reads (src := src) hr1)
    have HSC := Lib.hid (HSR.out l hsc)
    have hjl := HJF.out l hsc
    obtain ⟨m, hm, hmm, hjm⟩ := HJS.out l hsc
    have hln : l.length ≤ 4097 := by have := HSC.out.len; omega
    have hmn : m.length = l.length := by have := congrArg List.length hmm; simpa using this
    have hm6 : m.length ≤ 1000000 := by omega
    have HM6 := Lib.hid hm6
    clear hm6 hmn
    have hwk : ∀ t ∈ l, t.1.kind ≠ 0 → WkOK t.1 := fun t ht h => (HSC.out.ok t ht h).wk (by
      have h1 := le_sum (fun t => (txt t.1).length + 1) l t ht
      have h2 := HSC.out.sum
      omega)
    have hmw : ∀ t ∈ m, t.1.kind ≠ 0 → WkOK t.1 := fun t ht h => by
      have h1 : t.1 ∈ l.map (·.1) := by rw [← hmm]; exact List.mem_map_of_mem ht
      obtain ⟨x, hx, e⟩ := List.mem_map.1 h1
      rw [← e] at h ⊢
      exact hwk x hx h
    have hmk : ∀ t ∈ m, t.1.kind < 256 := fun t ht => by
      have h1 : t.1 ∈ l.map (·.1) := by rw [← hmm]; exact List.mem_map_of_mem ht
      obtain ⟨x, hx, e⟩ := List.mem_map.1 h1
      rw [← e]
      exact HSC.out.kind x hx
    have HJ := Lib.hid (joinK_any (c := c1) (by omega) hwk HSC.out.kind (by omega) HR1.out (HE.out.below HB1.out))
    have HMM := Lib.hid hmm
    have HMW := Lib.hid hmw
    have HMK := Lib.hid hmk
    have HJM := Lib.hid hjm
    have hsz : (bt (joinT l)).size ≤ 16384 := by rw [bt_size]; omega
    have htl : (bt (joinT l)).data.toList = joinT l := by simp [bt]
    have HM := Lib.hid hm
    have HTL := Lib.hid htl
    generalize htt : bt (joinT l) = t at *
    have HTT := Lib.hid htt
    clear hsc hr1 hb1 hmm hmw hmk hjm hwk hm htl htt HS
    go_wp2_with fail
    refine HJ.out.mono ?_
    rintro e w2 ⟨rfl, hb2⟩
    have HB2 := Lib.hid (HB1.out.trans (hb2.mono HB1.out.size))
    have HB12 := Lib.hid hb2
    have HS2 := Lib.hid (Scan_any t (by omega) (HE.out.below HB2.out).toEnvJ.toEnvS)
    rw [HTL.out, HM.out] at HS2
    clear hb2 HJ
    go_wp2_with fail
    with_reducible refine HS2.out.mono ?_
    rintro e w4 ⟨g4, c4, rfl, hr4, hb4⟩
    have HB4 := Lib.hid (HB2.out.trans (hb4.mono HB2.out.size))
    have HR4 := Lib.hid (own_reads (src := joinT l) hr4)
    have HAL := Lib.hid (Alike_any (s1 := src) (s2 := joinT l) (c1 := c1) (c2 := c4) HMM.out (by omega) (Reads.rowBelow (src := src) (Reads.rowBelow (src := src) HR1.out HB12.out) hb4) HR4.out)
    clear hr4 hb4 HS2
    go_wp2_with fail
    with_reducible refine HAL.out.mono ?_
    rintro e w5 ⟨rfl, hb5⟩
    have HB5 := Lib.hid (HB4.out.trans (hb5.mono HB4.out.size))
    have HJ2 := Lib.hid (joinK_any (src := joinT l) (l := m) (c := c4) HM6.out HMW.out HMK.out (by rw [HJM.out]; omega) (Reads.rowBelow (src := joinT l) HR4.out hb5) (HE.out.below HB5.out))
    rw [HJM.out, HTT.out] at HJ2
    clear hb5 HAL
    go_wp2_with fail
    with_reducible refine HJ2.out.mono ?_
    rintro e w6 ⟨rfl, hb6⟩
    have HB6 := Lib.hid (HB5.out.trans (hb6.mono HB5.out.size))
    have HWK := Lib.hid (works_any (HE.out.below HB6.out).toEnvJ)
    clear hb6 HJ2
    go_wp2_with fail
    refine HWK.out.mono ?_
    rintro e w7 ⟨rfl, hb7⟩
    have HB7 := Lib.hid (HB6.out.trans (hb7.mono HB6.out.size))
    clear hb7
    go_wp2
    go_ret
    exact ⟨rfl, HB7.out⟩
end Go.Proofs.YtkiedbanobjmlaaDoor.Lx
