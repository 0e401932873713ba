/- LexWords: the walk. -/
import Derived.Test.YtkiedbanobjmlaaDoorL27
set_option linter.unusedSimpArgs false
set_option linter.unusedVariables false
namespace Go.Proofs.YtkiedbanobjmlaaDoor.Lx
open Go.RowKit
open Pl Fl
attribute [local go_sem] run_store_complexL

theorem TkOK.ne {t : Tk} (h : TkOK t) : txt t ≠ [] := (item_txt h (r := []) (.inl rfl)).2
set_option maxRecDepth 100000 in
set_option maxHeartbeats 3200000 in
theorem words_works (s t : ByteArray) {w : World} (E : EnvK w) (h : 1024 < s.size ∨ 4096 < t.size) : Calls Tryd.prog 4 #[.string s, .string t] w fun e w' => e = .returned (.bool true) ∧ Below w.heap.size w w' := by
  have HWK := Lib.hid (works_any E.toEnvJ)
  clear E
  by_cases h1 : 1024 < s.size
  · have x0 : (1024 : Int) < (s.size : Int) := by omega
    clear h
    go_enter Tryd.func4, Tryd.ntmps4
    go_wp2_with fail
    refine HWK.out.mono ?_
    rintro e w1 ⟨rfl, hb⟩
    have HB := Lib.hid hb
    clear hb
    go_wp2
    go_ret
    exact ⟨rfl, HB.out⟩
  · have x0 : ¬ (1024 : Int) < (s.size : Int) := by omega
    have x1 : (4096 : Int) < (t.size : Int) := by omega
    clear h
    go_enter Tryd.func4, Tryd.ntmps4
    go_wp2_with fail
    refine HWK.out.mono ?_
    rintro e w1 ⟨rfl, hb⟩
    have HB := Lib.hid hb
    clear hb
    go_wp2
    go_ret
    exact ⟨rfl, HB.out⟩
set_option maxRecDepth 100000 in
set_option maxHeartbeats 6400000 in
theorem words_walk (s t : ByteArray) {w : World} (E : EnvK w) : Calls Tryd.prog 4 #[.string s, .string t] w fun e w' => e = .returned (.bool true) ∧ Below w.heap.size w w' := by
  by_cases hbig : 1024 < s.size ∨ 4096 < t.size
  · exact words_works s t E hbig
  have x0 : ¬ (1024 : Int) < (s.size : Int) := by omega
  have x1 : ¬ (4096 : Int) < (t.size : Int) := by omega
  have hs2 : t.size ≤ 4096 := by omega
  have HE := Lib.hid E
  have HS := Lib.hid (rScan_any t (by omega) w)
  have hsl : t.data.toList.length = t.size := by simp
  have HWD := Lib.hid (fun (wx : World) (hb : Below w.heap.size w wx) => Word_any s (by omega) (E.below hb).toEnvJ.toEnvS)
  have HRW := Lib.hid (fun (wx : World) => rWord_any s wx)
  have HNM := Lib.hid (fun (wx : World) (hb : Below w.heap.size w wx) => Name_any s (by omega) (E.below hb).toEnvJ.toEnvS)
  have HRN := Lib.hid (fun (wx : World) => rName_any s (by omega) wx)
  have HW := Lib.hid (fun (wx : World) (hb : Below w.heap.size w wx) => works_any (E.below hb).toEnvJ)
  clear E hbig
  generalize hsrc : t.data.toList = src at *
  clear hsrc
  have HSR := Lib.hid (fun l (h : scanL src = .ok l) => src_of h)
  have HJF := Lib.hid (fun l (h : scanL src = .ok l) => join_fits h)
  generalize isW s = bw at *
  generalize isName s.data.toList = bn at *
  go_enter Tryd.func4, Tryd.ntmps4
  go_wp2_with fail
  refine HS.out.mono ?_
  rintro e w1 h1
  clear HS
  cases hsc : scanL src with
  | error ik =>
    obtain ⟨i, k⟩ := ik
    rw [hsc] at h1
    obtain ⟨rfl, hb1⟩ := h1
    have HB1 := Lib.hid hb1
    have k0 : ((k : Int) != 0) = true := by
      have := scanL_err hsc
      simp only [bne_iff_ne, ne_eq]
      omega
    have HJ := Lib.hid (fun (wx : World) (hb : Below w.heap.size w wx) => show Calls Tryd.prog 17 #[.slice none 0 0] wx fun e w' => e = .returned (.string (bt (joinT []))) ∧ Below wx.heap.size wx w' from joinK_any (src := []) (l := []) (c := 0) (by simp) (fun t ht => by simp at ht) (fun t ht => by simp at ht) (by simp [joinT, txts, Lib.join]) ⟨by simp [flat], fun h => absurd h (by simp)⟩ (HE.out.below hb))
    have HRJ := Lib.hid (fun (wx : World) => show Calls Tryd.prog 18 #[.slice none 0 0] wx fun e w' => e = .returned (.string (bt (joinT []))) ∧ Below wx.heap.size wx w' from rJoin_any (src := []) (l := []) (c := 0) (by simp) (fun t ht => by simp at ht) (by simp) ⟨by simp [flat], fun h => absurd h (by simp)⟩)
    generalize bt (joinT []) = T at *
    clear hb1 hsc
    have HX1 := Lib.hid (Below.refl w1.heap.size w1)
    go_wp2_with fail
    with_reducible refine (HWD.out _ HB1.out).mono ?_
    rintro e w2 ⟨rfl, hw⟩
    have hb2 : Below w1.heap.size w1 w2 := by rw [hw]; exact Below.refl _ _
    clear hw
    have HB2 := Lib.hid (HB1.out.trans (hb2.mono HB1.out.size))
    have HX2 := Lib.hid (HX1.out.trans (hb2.mono HX1.out.size))
    clear hb2
    go_wp2_with fail
    with_reducible refine (HRW.out _).mono ?_
    rintro e w3 ⟨rfl, hw⟩
    have hb3 : Below w2.heap.size w2 w3 := by rw [hw]; exact (Below.refl _ _).alloc (Nat.le_refl _) _
    clear hw
    have HB3 := Lib.hid (HB2.out.trans (hb3.mono HB2.out.size))
    have HX3 := Lib.hid (HX2.out.trans (hb3.mono HX2.out.size))
    clear hb3
    go_wp2_with fail
    with_reducible refine (HNM.out _ HB3.out).mono ?_
    rintro e w4 ⟨rfl, hw⟩
    have hb4 : Below w3.heap.size w3 w4 := by rw [hw]; exact Below.refl _ _
    clear hw
    have HB4 := Lib.hid (HB3.out.trans (hb4.mono HB3.out.size))
    have HX4 := Lib.hid (HX3.out.trans (hb4.mono HX3.out.size))
    clear hb4
    go_wp2_with fail
    with_reducible refine (HRN.out _).mono ?_
    rintro e w5 ⟨rfl, hb5⟩
    have HB5 := Lib.hid (HB4.out.trans (hb5.mono HB4.out.size))
    have HX5 := Lib.hid (HX4.out.trans (hb5.mono HX4.out.size))
    clear hb5
    go_wp2_with fail
    with_reducible refine (HJ.out _ HB5.out).mono ?_
    rintro e w6 ⟨rfl, hb6⟩
    have HB6 := Lib.hid (HB5.out.trans (hb6.mono HB5.out.size))
    have HX6 := Lib.hid (HX5.out.trans (hb6.mono HX5.out.size))
    clear hb6
    go_wp2_with fail
    with_reducible refine (HRJ.out _).mono ?_
    rintro e w7 ⟨rfl, hb7⟩
    have HB7 := Lib.hid (HB6.out.trans (hb7.mono HB6.out.size))
    have HX7 := Lib.hid (HX6.out.trans (hb7.mono HX6.out.size))
    clear hb7
    go_wp2_with fail
    with_reducible refine (HW.out _ HB7.out).mono ?_
    rintro e w8 ⟨rfl, hb8⟩
    have HB8 := Lib.hid (HB7.out.trans (hb8.mono HB7.out.size))
    have HX8 := Lib.hid (HX7.out.trans (hb8.mono HX7.out.size))
    clear hb8
    go_wp2
    go_ret
    exact ⟨rfl, HB8.out⟩
  | ok l =>
    rw [hsc] at h1
    obtain ⟨g1, c1, rfl, hr1, hb1⟩ := h1
    have HB1 := Lib.hid hb1
    have HR1 := Lib.hid (own_reads (src := src) hr1)
    have HSC := Lib.hid (HSR.out l hsc)
    have hjl := HJF.out l hsc
    have hln : l.length ≤ 4097 := by have := HSC.out.len; omega
    have hle : ∀ t ∈ l, (txt t.1).length ≤ 100000 := fun t ht => by
      have h1 := le_sum (fun t => (txt t.1).length + 1) l t ht
      have h2 := HSC.out.sum
      omega
    have hsm : (l.map fun t => (txt t.1).length + 1).sum ≤ 1000000 := by have := HSC.out.sum; omega
    have HJ := Lib.hid (fun (wx : World) (hb : Below w1.heap.size w1 wx) (hb0 : Below w.heap.size w wx) => joinK_any (c := c1) (by omega) (fun t ht h => (HSC.out.ok t ht h).wk (by have := hle t ht; omega)) HSC.out.kind (by omega) (Reads.rowBelow (src := src) HR1.out hb) (HE.out.below hb0))
    have HRJ := Lib.hid (fun (wx : World) (hb : Below w1.heap.size w1 wx) => rJoin_any (c := c1) (by omega) (fun t ht h => ⟨rText_ok ((HSC.out.ok t ht h).toR (by have := hle t ht; omega)), (HSC.out.ok t ht h).ne⟩) hsm (Reads.rowBelow (src := src) HR1.out hb))
    generalize bt (joinT l) = T at *
    clear hb1 hsc hr1 hle hsm hjl
    have HX1 := Lib.hid (Below.refl w1.heap.size w1)
    go_wp2_with fail
    with_reducible refine (HWD.out _ HB1.out).mono ?_
    rintro e w2 ⟨rfl, hw⟩
    have hb2 : Below w1.heap.size w1 w2 := by rw [hw]; exact Below.refl _ _
    clear hw
    have HB2 := Lib.hid (HB1.out.trans (hb2.mono HB1.out.size))
    have HX2 := Lib.hid (HX1.out.trans (hb2.mono HX1.out.size))
    clear hb2
    go_wp2_with fail
    with_reducible refine (HRW.out _).mono ?_
    rintro e w3 ⟨rfl, hw⟩
    have hb3 : Below w2.heap.size w2 w3 := by rw [hw]; exact (Below.refl _ _).alloc (Nat.le_refl _) _
    clear hw
    have HB3 := Lib.hid (HB2.out.trans (hb3.mono HB2.out.size))
    have HX3 := Lib.hid (HX2.out.trans (hb3.mono HX2.out.size))
    clear hb3
    go_wp2_with fail
    with_reducible refine (HNM.out _ HB3.out).mono ?_
    rintro e w4 ⟨rfl, hw⟩
    have hb4 : Below w3.heap.size w3 w4 := by rw [hw]; exact Below.refl _ _
    clear hw
    have HB4 := Lib.hid (HB3.out.trans (hb4.mono HB3.out.size))
    have HX4 := Lib.hid (HX3.out.trans (hb4.mono HX3.out.size))
    clear hb4
    go_wp2_with fail
    with_reducible refine (HRN.out _).mono ?_
    rintro e w5 ⟨rfl, hb5⟩
    have HB5 := Lib.hid (HB4.out.trans (hb5.mono HB4.out.size))
    have HX5 := Lib.hid (HX4.out.trans (hb5.mono HX4.out.size))
    clear hb5
    go_wp2_with fail
    with_reducible refine (HJ.out _ HX5.out HB5.out).mono ?_
    rintro e w6 ⟨rfl, hb6⟩
    have HB6 := Lib.hid (HB5.out.trans (hb6.mono HB5.out.size))
    have HX6 := Lib.hid (HX5.out.trans (hb6.mono HX5.out.size))
    clear hb6
    go_wp2_with fail
    with_reducible refine (HRJ.out _ HX6.out).mono ?_
    rintro e w7 ⟨rfl, hb7⟩
    have HB7 := Lib.hid (HB6.out.trans (hb7.mono HB6.out.size))
    have HX7 := Lib.hid (HX6.out.trans (hb7.mono HX6.out.size))
    clear hb7
    go_wp2_with fail
    with_reducible refine (HW.out _ HB7.out).mono ?_
    rintro e w8 ⟨rfl, hb8⟩
    have HB8 := Lib.hid (HB7.out.trans (hb8.mono HB7.out.size))
    have HX8 := Lib.hid (HX7.out.trans (hb8.mono HX7.out.size))
    clear hb8
    go_wp2
    go_ret
    exact ⟨rfl, HB8.out⟩
end Go.Proofs.YtkiedbanobjmlaaDoor.Lx
