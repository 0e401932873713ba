/- The laws with integers as the rows hand them. -/
import Derived.Test.YtpomnihgimgpdaaDoorL5
set_option linter.unusedSimpArgs false
set_option linter.unusedVariables false
namespace Go.Proofs.YtpomnihgimgpdaaDoor.Pl
open Go.RowKit
theorem wf16 {a : Int} (h : (Lit.int .u16 a).wf = true) : ∃ n : Nat, n < 65536 ∧ a = n := by
  have : 0 ≤ a ∧ a ≤ 65535 := by simpa [Lit.wf, IntKind.min, IntKind.max, IntKind.signed, IntKind.bits] using h
  exact ⟨a.toNat, by omega, by omega⟩
theorem order_law (a0 a1 a2 a3 a4 a5 : Int) (w : World) (w0 : (Lit.int .u16 a0).wf = true) (w1 : (Lit.int .u16 a1).wf = true) (w2 : (Lit.int .u16 a2).wf = true) (w3 : (Lit.int .u16 a3).wf = true) (w4 : (Lit.int .u16 a4).wf = true) (w5 : (Lit.int .u16 a5).wf = true) (ht : Tabs w) :
    Calls Tryd.prog 4 #[.int .u16 a0, .int .u16 a1, .int .u16 a2, .int .u16 a3, .int .u16 a4, .int .u16 a5] w fun e w' => e = .returned (.bool true) ∧ Below w.heap.size w w' := by
  obtain ⟨a, ha, rfl⟩ := wf16 w0
  obtain ⟨b, hb, rfl⟩ := wf16 w1
  obtain ⟨c, hc, rfl⟩ := wf16 w2
  obtain ⟨d, hd, rfl⟩ := wf16 w3
  obtain ⟨f, hf, rfl⟩ := wf16 w4
  obtain ⟨g, hg, rfl⟩ := wf16 w5
  exact order_any a b c d f g w ha hb hc hd hf hg ht
theorem plain_law (a0 a1 : Int) (s : ByteArray) (w : World) (w0 : (Lit.int .u16 a0).wf = true) (w1 : (Lit.int .u16 a1).wf = true) (hs : s.size ≤ 9223372036854775807) (ht : Tabs w) :
    Calls Tryd.prog 6 #[.int .u16 a0, .int .u16 a1, .string s] w fun e w' => e = .returned (.bool true) ∧ Below w.heap.size w w' := by
  obtain ⟨a, ha, rfl⟩ := wf16 w0
  obtain ⟨b, hb, rfl⟩ := wf16 w1
  exact plain_any a b s w ha hb hs ht
theorem back_law (s t : ByteArray) (a0 : Int) (w : World) (hs : s.size ≤ 9223372036854775807) (hT : t.size ≤ 9223372036854775807) (w0 : (Lit.int .u16 a0).wf = true) (ht : Tabs w) :
    Calls Tryd.prog 8 #[.string s, .string t, .int .u16 a0] w fun e w' => e = .returned (.bool true) ∧ Below w.heap.size w w' := by
  obtain ⟨a, ha, rfl⟩ := wf16 w0
  exact back_any s t a w hs hT ha ht
end Go.Proofs.YtpomnihgimgpdaaDoor.Pl
