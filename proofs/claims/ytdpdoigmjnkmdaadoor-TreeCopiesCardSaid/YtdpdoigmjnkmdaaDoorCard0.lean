/- What the rows' list of variables gives, and a world for the witness. -/
import Derived.Test.YtdpdoigmjnkmdaaDoorCards
import Derived.Test.YtdpdoigmjnkmdaaDoorTie
import Derived.Test.YtdpdoigmjnkmdaaDoorT40
import Derived.Lib.LaidTab
import Derived.Stop.LaidErr
set_option linter.unusedSimpArgs false
set_option linter.unusedVariables false
namespace Go.Proofs.YtdpdoigmjnkmdaaDoor.Tr
open Go.RowKit

theorem gPowType : (Tryd.prog.globals[0]?).map (·.type) = some 112 := by kernel_rfl
theorem cellsPow : Tryd.prog.cellsOf 112 = 20 := by kernel_rfl
theorem cellsU64 : Tryd.prog.cellsOf 97 = 1 := by kernel_rfl
theorem gSynType : (Tryd.prog.globals[2]?).map (·.type) = some 69 := by kernel_rfl
theorem gRanType : (Tryd.prog.globals[3]?).map (·.type) = some 69 := by kernel_rfl
theorem cells126 : Tryd.prog.cellsOf 126 = 1 := by kernel_rfl
theorem cells9 : Tryd.prog.cellsOf 9 = 1 := by kernel_rfl
theorem star : "*" ++ "errors.errorString" = "*errors.errorString" := by decide
theorem row124 (u : TypeId) (h : Tryd.prog.typeName? 3 u = some "*errors.errorString") : u = 124 :=
  typeName_ptr_named (nm := "errors.errorString") (by rw [star]; kernel_rfl) (by kernel_rfl) (by decide) u (by rw [star]; exact h)
theorem gB64 : Tryd.prog.globalNamed "math/bits.deBruijn64tab" = some 5 := by kernel_rfl
theorem gB64Type : (Tryd.prog.globals[5]?).map (·.type) = some 128 := by kernel_rfl
theorem cellsB64 : Tryd.prog.cellsOf 128 = 64 := by kernel_rfl
theorem cellsU8 : Tryd.prog.cellsOf 5 = 1 := by kernel_rfl

theorem envW {W : World} (h : laidMetH Tryd.prog Rows.treeTellsRow.laid W) (hs : W.ShapedOpen Tryd.prog) : EnvW W := by
  have h' : laidMet Tryd.prog [("math/bits.deBruijn32tab", Rows.laid_math_bits_deBruijn32tab), ("math/bits.deBruijn64tab", Rows.laid_math_bits_deBruijn64tab), ("internal/strconv.uint64pow10", Rows.laid_internal_strconv_uint64pow10), ("strconv.ErrRange", Rows.laid_strconv_ErrRange), ("strconv.ErrSyntax", Rows.laid_strconv_ErrSyntax)] W := h
  have h3 := h'.tail.tail
  have t : Pl.Tab W := Lib.tabIs_of_head (rest := [("strconv.ErrRange", Rows.laid_strconv_ErrRange), ("strconv.ErrSyntax", Rows.laid_strconv_ErrSyntax)]) gn0 gPowType Tryd.underlying112 Tryd.underlying97 cellsU64 cellsPow h3
  obtain ⟨a, s, ha, _⟩ := laid_sentinel h3.tail gn3 gRanType Tryd.underlying69 row124 Tryd.underlying124 Tryd.underlying126 rfl rfl Tryd.underlying9 cells126 cells9
  obtain ⟨b, s', hb, _⟩ := laid_sentinel h3.tail.tail gn2 gSynType Tryd.underlying69 row124 Tryd.underlying124 Tryd.underlying126 rfl rfl Tryd.underlying9 cells126 cells9
  refine ⟨cell_of_shapedOpen_int (zero := #[.int .i64 0]) (g := 1) (t := 3) hs (of_decide_eq_true (by kernel_rfl)) (by kernel_rfl) rfl (by kernel_rfl) (by kernel_rfl) Tryd.underlying3, ⟨t, ⟨_, _, hb⟩, _, _, ha⟩, ?_⟩
  have t64 : ∃ zs, Lib.TabIs Tryd.prog W "math/bits.deBruijn64tab" .u8 zs := ⟨_, Lib.tabIs_of_head (zs := [0, 1, 56, 2, 57, 49, 28, 3, 61, 58, 42, 50, 38, 29, 17, 4, 62, 47, 59, 36, 45, 43, 51, 22, 53, 39, 33, 30, 24, 18, 12, 5, 63, 55, 48, 27, 60, 41, 37, 16, 46, 35, 44, 21, 52, 32, 23, 11, 54, 26, 40, 15, 34, 20, 31, 10, 25, 14, 19, 9, 13, 8, 7, 6]) gB64 gB64Type Tryd.underlying128 Tryd.underlying5 cellsU8 cellsB64 h'.tail⟩
  obtain ⟨zs, ht⟩ := t64
  unfold Lib.TabIs World.var? at ht
  rw [gB64] at ht
  simp only [Option.bind_some] at ht
  rcases Nat.lt_or_ge 5 W.heap.size with h5 | h5
  · omega
  · rw [Array.getElem?_eq_none h5] at ht; simp at ht

/-- The numbers of a datum, as cells. -/
def litCells : DataW Unit → Array Value
  | .agg l => (l.map fun | .lit (.int k z) => Value.int k z | _ => .bool false).toArray
  | _ => #[]
def put (cs : Array Value) : Obj → Obj
  | .cells _ t frozen => .cells cs t frozen
  | o => o
noncomputable def low : Nat := (World.holding Tryd.prog default ⟨#[], #[], []⟩).heap.size
def txt : DataW Unit → ByteArray
  | .iface _ (.ptr (.agg [.lit (.string l)])) => ⟨l.toArray⟩
  | _ => ⟨#[]⟩
noncomputable def witBlocks : Array Obj := #[.cells #[.string (txt Rows.laid_strconv_ErrSyntax)] 126, .cells #[.string (txt Rows.laid_strconv_ErrRange)] 126]
/-- A world for the witness: the settled one, each variable holding what its initialiser lays. -/
noncomputable def laidWorld (os : Os) : World :=
  { World.holding Tryd.prog os ⟨witBlocks, #[], []⟩ with heap := (((((World.holding Tryd.prog os ⟨witBlocks, #[], []⟩).heap.modify 2 (put #[.iface 124 (.pointer (some ⟨low, 0, none⟩))])).modify 3 (put #[.iface 124 (.pointer (some ⟨low + 1, 0, none⟩))])).modify 0 (put (litCells Rows.laid_internal_strconv_uint64pow10))).modify 4 (put (litCells Rows.laid_math_bits_deBruijn32tab))).modify 5 (put (litCells Rows.laid_math_bits_deBruijn64tab)) }
theorem laid_met (os : Os) (args : Array Value) : laidMet Tryd.prog Rows.treeTellsRow.laid ((laidWorld os).forCall (fun _ _ => 0) ⟨#[], args, []⟩).memory :=
  laidMet_of_run' 8 (by kernel_rfl) (by kernel_rfl)
end Go.Proofs.YtdpdoigmjnkmdaaDoor.Tr
