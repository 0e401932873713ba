/- The walks of the laws WordDoes and WordTells. -/
import Derived.Test.YtdodbbedlgglcaaDoorD8
import Derived.Test.YtdodbbedlgglcaaDoorL0
set_option linter.unusedSimpArgs false
set_option linter.unusedVariables false
namespace Go.Proofs.YtdodbbedlgglcaaDoor.Wd
open Go.RowKit
open WPlain

set_option maxHeartbeats 800000 in
theorem does_walk (op a b : Nat) (w : World) (ho : op < 256) (ha : a < 65536) (hb : b < 65536) (ht : Tab w) :
    Calls Tryd.prog 3 #[.int .u8 op, .int .u16 a, .int .u16 b] w fun e w' => e = .returned (.bool true) ∧ Below w.heap.size w w' := by
  have hd := Does_any op a b w ho ha hb
  have hr := fun w' => rDoes_any op a b w' ho ha hb
  have hk := fun w' => takes_any op w' ho
  have hq := fun w' => rtakes_any op w' ho
  unfold tup at hd hr
  have HD := Lib.hid hd
  have HR := Lib.hid hr
  have HK := Lib.hid hk
  have HQ := Lib.hid hq
  have HT := Lib.hid ht
  clear hd hr hk hq ht
  generalize opP op a b = r at *
  generalize takesP op = t at *
  go_enter Tryd.func3, Tryd.ntmps3
  go_wp2_with fail
  ((with_reducible refine HD.out.mono ?_); rintro e w1 ⟨rfl, h1⟩)
  go_wp2_with fail
  ((with_reducible refine (HR.out _).mono ?_); rintro e w2 ⟨rfl, rfl⟩)
  go_wp2_with fail
  ((with_reducible refine (HK.out _).mono ?_); rintro e w2 ⟨rfl, rfl⟩)
  go_wp2_with fail
  ((with_reducible refine (HQ.out _).mono ?_); rintro e w2 ⟨rfl, rfl⟩)
  go_wp2_with fail
  ((with_reducible refine (alive_any _ (tab_below HT.out h1)).mono ?_); rintro e w2 ⟨rfl, h2⟩)
  go_wp2
  go_ret
  exact ⟨rfl, h1.trans (h2.mono h1.size)⟩

set_option maxHeartbeats 1600000 in
theorem tells_walk (a low high : Nat) (n : Int) (s : Bool) (w : World) (ha : a < 65536) (hl : low < 65536) (hh : high < 65536) (ht : Tab w) :
    Calls Tryd.prog 8 #[.int .u16 a, .int .u16 low, .int .u16 high, .int .i64 n, .bool s] w fun e w' => e = .returned (.bool true) ∧ Below w.heap.size w w' := by
  have h1 := of_any n w
  have h2 := rof_any n w
  have h3 := int_any a w ha
  have h4 := rint_any a w ha
  have h5 := within_any s a low high w ha hl hh
  have h6 := rwithin_any s a low high w ha hl hh
  have h7 := text_any s a w ha ht
  have h8 := fun w' => rtext_any s a w' ha
  unfold ofTup at h1 h2
  have H1 := Lib.hid h1
  have H2 := Lib.hid h2
  have H3 := Lib.hid h3
  have H4 := Lib.hid h4
  have H5 := Lib.hid h5
  have H6 := Lib.hid h6
  have H7 := Lib.hid h7
  have H8 := Lib.hid h8
  have HT := Lib.hid ht
  clear h1 h2 h3 h4 h5 h6 h7 h8 ht
  generalize ofP n = r at *
  generalize sg a = x at *
  generalize withinP s a low high = y at *
  generalize textP s a = l at *
  go_enter Tryd.func8, Tryd.ntmps8
  go_wp2_with fail
  ((with_reducible refine H1.out.mono ?_); rintro e w2 ⟨rfl, rfl⟩)
  go_wp2_with fail
  ((with_reducible refine H2.out.mono ?_); rintro e w2 ⟨rfl, rfl⟩)
  go_wp2_with fail
  ((with_reducible refine H3.out.mono ?_); rintro e w2 ⟨rfl, rfl⟩)
  go_wp2_with fail
  ((with_reducible refine H4.out.mono ?_); rintro e w2 ⟨rfl, rfl⟩)
  go_wp2_with fail
  ((with_reducible refine H5.out.mono ?_); rintro e w2 ⟨rfl, rfl⟩)
  go_wp2_with fail
  ((with_reducible refine H6.out.mono ?_); rintro e w2 ⟨rfl, rfl⟩)
  go_wp2_with fail
  ((with_reducible refine H7.out.mono ?_); rintro e w2 ⟨rfl, g1⟩)
  go_wp2_with fail
  ((with_reducible refine (H8.out _).mono ?_); rintro e w3 ⟨rfl, g2⟩)
  replace g2 := g1.trans (g2.mono g1.size)
  go_wp2_with fail
  ((with_reducible refine (alive_any _ (tab_below HT.out g2)).mono ?_); rintro e w4 ⟨rfl, g3⟩)
  replace g3 := g2.trans (g3.mono g2.size)
  go_wp2
  go_ret
  exact ⟨rfl, g3⟩

theorem wf16 {a : Int} (h : (Lit.int .u16 a).wf = true) : ∃ n : Nat, n < 65536 ∧ a = n := by
  have : 0 ≤ a ∧ a ≤ 65535 := by simpa [Lit.wf, IntKind.min, IntKind.max, IntKind.signed, IntKind.bits] using h
  exact ⟨a.toNat, by omega, by omega⟩
theorem wf8 {a : Int} (h : (Lit.int .u8 a).wf = true) : ∃ n : Nat, n < 256 ∧ a = n := by
  have : 0 ≤ a ∧ a ≤ 255 := by simpa [Lit.wf, IntKind.min, IntKind.max, IntKind.signed, IntKind.bits] using h
  exact ⟨a.toNat, by omega, by omega⟩
theorem does_law (a0 a1 a2 : Int) (w : World) (ht : Tab w) (w0 : (Lit.int .u8 a0).wf = true) (w1 : (Lit.int .u16 a1).wf = true) (w2 : (Lit.int .u16 a2).wf = true) :
    Calls Tryd.prog 3 #[.int .u8 a0, .int .u16 a1, .int .u16 a2] w fun e w' => e = .returned (.bool true) ∧ Below w.heap.size w w' := by
  obtain ⟨n0, h0, rfl⟩ := wf8 w0
  obtain ⟨n1, h1, rfl⟩ := wf16 w1
  obtain ⟨n2, h2, rfl⟩ := wf16 w2
  exact does_walk n0 n1 n2 w h0 h1 h2 ht
theorem tells_law (a0 a1 a2 a3 : Int) (s : Bool) (w : World) (ht : Tab w) (w0 : (Lit.int .u16 a0).wf = true) (w1 : (Lit.int .u16 a1).wf = true) (w2 : (Lit.int .u16 a2).wf = true) :
    Calls Tryd.prog 8 #[.int .u16 a0, .int .u16 a1, .int .u16 a2, .int .i64 a3, .bool s] w fun e w' => e = .returned (.bool true) ∧ Below w.heap.size w w' := by
  obtain ⟨n0, h0, rfl⟩ := wf16 w0
  obtain ⟨n1, h1, rfl⟩ := wf16 w1
  obtain ⟨n2, h2, rfl⟩ := wf16 w2
  exact tells_walk n0 n1 n2 a3 s w h0 h1 h2 ht

end Go.Proofs.YtdodbbedlgglcaaDoor.Wd
