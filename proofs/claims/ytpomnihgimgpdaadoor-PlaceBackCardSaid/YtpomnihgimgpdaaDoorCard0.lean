/- What the rows' list of variables gives, and a world for the witness. -/
import Derived.Test.YtpomnihgimgpdaaDoorCards
import Derived.Test.YtpomnihgimgpdaaDoorTie
import Derived.Test.YtpomnihgimgpdaaDoorL0
import Derived.Lib.LaidTab
import Derived.Stop.LaidErr
set_option linter.unusedSimpArgs false
set_option linter.unusedVariables false
namespace Go.Proofs.YtpomnihgimgpdaaDoor.Pl
open Go.RowKit

theorem gPow : Tryd.prog.globalNamed "internal/strconv.uint64pow10" = some 2 := by kernel_rfl
theorem gPowType : (Tryd.prog.globals[2]?).map (·.type) = some 79 := by kernel_rfl
theorem cellsPow : Tryd.prog.cellsOf 79 = 20 := by kernel_rfl
theorem cellsU64 : Tryd.prog.cellsOf 65 = 1 := by kernel_rfl
theorem gSyn : Tryd.prog.globalNamed "strconv.ErrSyntax" = some 0 := by kernel_rfl
theorem gSynType : (Tryd.prog.globals[0]?).map (·.type) = some 52 := by kernel_rfl
theorem gRan : Tryd.prog.globalNamed "strconv.ErrRange" = some 1 := by kernel_rfl
theorem gRanType : (Tryd.prog.globals[1]?).map (·.type) = some 52 := by kernel_rfl
theorem cells88 : Tryd.prog.cellsOf 88 = 1 := by kernel_rfl
theorem cells9 : Tryd.prog.cellsOf 9 = 1 := by kernel_rfl
theorem star : "*" ++ "errors.errorString" = "*errors.errorString" := by decide
theorem row86 (u : TypeId) (h : Tryd.prog.typeName? 3 u = some "*errors.errorString") : u = 86 :=
  typeName_ptr_named (nm := "errors.errorString") (by rw [star]; kernel_rfl) (by kernel_rfl) (by decide) u (by rw [star]; exact h)

theorem tabs {W : World} (h : laidMetH Tryd.prog Rows.placeTellsRow.laid W) : Tabs W := by
  have h' : laidMet Tryd.prog [("math/bits.deBruijn32tab", Rows.laid_math_bits_deBruijn32tab), ("math/bits.deBruijn64tab", Rows.laid_math_bits_deBruijn64tab), ("internal/strconv.uint64pow10", Rows.laid_internal_strconv_uint64pow10), ("strconv.ErrRange", Rows.laid_strconv_ErrRange), ("strconv.ErrSyntax", Rows.laid_strconv_ErrSyntax)] W := h
  have h3 := h'.tail.tail
  have t : Tab W := Lib.tabIs_of_head (rest := [("strconv.ErrRange", Rows.laid_strconv_ErrRange), ("strconv.ErrSyntax", Rows.laid_strconv_ErrSyntax)]) gPow gPowType Tryd.underlying79 Tryd.underlying65 cellsU64 cellsPow h3
  obtain ⟨a, s, ha, _⟩ := laid_sentinel h3.tail gRan gRanType Tryd.underlying52 row86 Tryd.underlying86 Tryd.underlying88 rfl rfl Tryd.underlying9 cells88 cells9
  obtain ⟨b, s', hb, _⟩ := laid_sentinel h3.tail.tail gSyn gSynType Tryd.underlying52 row86 Tryd.underlying86 Tryd.underlying88 rfl rfl Tryd.underlying9 cells88 cells9
  exact ⟨t, ⟨_, _, hb⟩, _, _, ha⟩

/-- The numbers of a datum, as cells. -/
def litCells : DataW Unit → Array Value
  | .agg l => (l.map fun | .lit (.int k z) => Value.int k z | _ => .bool false).toArray
  | _ => #[]
def put (cs : Array Value) : Obj → Obj
  | .cells _ t frozen => .cells cs t frozen
  | o => o
noncomputable def low : Nat := (World.holding Tryd.prog default ⟨#[], #[], []⟩).heap.size
def txt : DataW Unit → ByteArray
  | .iface _ (.ptr (.agg [.lit (.string l)])) => ⟨l.toArray⟩
  | _ => ⟨#[]⟩
noncomputable def witBlocks : Array Obj := #[.cells #[.string (txt Rows.laid_strconv_ErrSyntax)] 88, .cells #[.string (txt Rows.laid_strconv_ErrRange)] 88]
/-- A world for the witness: the settled one, each variable holding what its initialiser lays. -/
noncomputable def laidWorld (os : Os) : World :=
  { World.holding Tryd.prog os ⟨witBlocks, #[], []⟩ with heap := (((((World.holding Tryd.prog os ⟨witBlocks, #[], []⟩).heap.modify 0 (put #[.iface 86 (.pointer (some ⟨low, 0, none⟩))])).modify 1 (put #[.iface 86 (.pointer (some ⟨low + 1, 0, none⟩))])).modify 2 (put (litCells Rows.laid_internal_strconv_uint64pow10))).modify 3 (put (litCells Rows.laid_math_bits_deBruijn32tab))).modify 4 (put (litCells Rows.laid_math_bits_deBruijn64tab)) }
theorem laid_met (os : Os) (args : Array Value) : laidMet Tryd.prog Rows.placeTellsRow.laid ((laidWorld os).forCall (fun _ _ => 0) ⟨#[], args, []⟩).memory :=
  laidMet_of_run' 8 (by kernel_rfl) (by kernel_rfl)
end Go.Proofs.YtpomnihgimgpdaaDoor.Pl
