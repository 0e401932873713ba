/- What the rows' list of variables gives, and a world for the witness. -/
import Derived.Test.YtkiedbanobjmlaaDoorCards
import Derived.Test.YtkiedbanobjmlaaDoorTie
import Derived.Test.YtkiedbanobjmlaaDoorL14
import Derived.Lib.LaidTab
import Derived.Stop.LaidErr
set_option linter.unusedSimpArgs false
set_option linter.unusedVariables false
namespace Go.Proofs.YtkiedbanobjmlaaDoor.Lx
open Go.RowKit
open Pl

theorem gPow : Tryd.prog.globalNamed "internal/strconv.uint64pow10" = some 1 := by kernel_rfl
theorem gPowType : (Tryd.prog.globals[1]?).map (·.type) = some 107 := by kernel_rfl
theorem cellsPow : Tryd.prog.cellsOf 107 = 20 := by kernel_rfl
theorem cellsU64 : Tryd.prog.cellsOf 86 = 1 := by kernel_rfl
theorem gSyn : Tryd.prog.globalNamed "strconv.ErrSyntax" = some 2 := by kernel_rfl
theorem gSynType : (Tryd.prog.globals[2]?).map (·.type) = some 78 := by kernel_rfl
theorem gRan : Tryd.prog.globalNamed "strconv.ErrRange" = some 3 := by kernel_rfl
theorem gRanType : (Tryd.prog.globals[3]?).map (·.type) = some 78 := by kernel_rfl
theorem cellsErr : Tryd.prog.cellsOf 125 = 1 := by kernel_rfl
theorem cellsStr : Tryd.prog.cellsOf 9 = 1 := by kernel_rfl
theorem star : "*" ++ "errors.errorString" = "*errors.errorString" := by decide
theorem rowErr (u : TypeId) (h : Tryd.prog.typeName? 3 u = some "*errors.errorString") : u = 123 :=
  typeName_ptr_named (nm := "errors.errorString") (by rw [star]; kernel_rfl) (by kernel_rfl) (by decide) u (by rw [star]; exact h)
theorem cell_of_var {P : Program} {w : World} {name : String} {g : Nat} {v : Value} (hg : P.globalNamed name = some g) (h : w.var? P name = some #[v]) : w.cell? ⟨g, 0, none⟩ = some v := by
  unfold World.var? at h
  rw [hg] at h
  simp only [Option.bind_some] at h
  unfold World.cell?
  split at h
  · rename_i cs t fz hb
    injection h with h
    subst h
    rw [hb]
    rfl
  · cases h
theorem envJ {W : World} (h : laidMetH Tryd.prog Rows.lexScansRow.laid W) (hS : W.ShapedOpen Tryd.prog) : EnvJ W := by
  have h' : laidMet Tryd.prog [("math/bits.deBruijn32tab", Rows.laid_math_bits_deBruijn32tab), ("math/bits.deBruijn64tab", Rows.laid_math_bits_deBruijn64tab), ("internal/strconv.uint64pow10", Rows.laid_internal_strconv_uint64pow10), ("strconv.ErrRange", Rows.laid_strconv_ErrRange), ("strconv.ErrSyntax", Rows.laid_strconv_ErrSyntax)] W := h
  have h3 := h'.tail.tail
  have t : Tab W := Lib.tabIs_of_head (rest := [("strconv.ErrRange", Rows.laid_strconv_ErrRange), ("strconv.ErrSyntax", Rows.laid_strconv_ErrSyntax)]) gPow gPowType Tryd.underlying107 Tryd.underlying86 cellsU64 cellsPow h3
  obtain ⟨a, s, ha, _⟩ := laid_sentinel h3.tail gRan gRanType Tryd.underlying78 rowErr Tryd.underlying123 Tryd.underlying125 rfl rfl Tryd.underlying9 cellsErr cellsStr
  obtain ⟨b, s', hb, _⟩ := laid_sentinel h3.tail.tail gSyn gSynType Tryd.underlying78 rowErr Tryd.underlying123 Tryd.underlying125 rfl rfl Tryd.underlying9 cellsErr cellsStr
  exact ⟨⟨Tryd.laysM144.s1_3 W hS, ⟨_, _, cell_of_var gSyn hb⟩, ⟨_, _, cell_of_var gRan ha⟩⟩, t⟩

/-- The numbers of a datum, as cells. -/
def litCells : DataW Unit → Array Value
  | .agg l => (l.map fun | .lit (.int k z) => Value.int k z | _ => .bool false).toArray
  | _ => #[]
def put (cs : Array Value) : Obj → Obj
  | .cells _ t frozen => .cells cs t frozen
  | o => o
noncomputable def low : Nat := (World.holding Tryd.prog default ⟨#[], #[], []⟩).heap.size
def dtxt : DataW Unit → ByteArray
  | .iface _ (.ptr (.agg [.lit (.string l)])) => ⟨l.toArray⟩
  | _ => ⟨#[]⟩
noncomputable def witBlocks : Array Obj := #[.cells #[.string (dtxt Rows.laid_strconv_ErrSyntax)] 125, .cells #[.string (dtxt Rows.laid_strconv_ErrRange)] 125]
/-- A world for the witness: the settled one, each variable holding what its initialiser lays. -/
noncomputable def laidWorld (os : Os) : World :=
  { World.holding Tryd.prog os ⟨witBlocks, #[], []⟩ with heap := (((((World.holding Tryd.prog os ⟨witBlocks, #[], []⟩).heap.modify 2 (put #[.iface 123 (.pointer (some ⟨low, 0, none⟩))])).modify 3 (put #[.iface 123 (.pointer (some ⟨low + 1, 0, none⟩))])).modify 1 (put (litCells Rows.laid_internal_strconv_uint64pow10))).modify 4 (put (litCells Rows.laid_math_bits_deBruijn32tab))).modify 5 (put (litCells Rows.laid_math_bits_deBruijn64tab)) }
theorem laid_met (os : Os) (args : Array Value) : laidMet Tryd.prog Rows.lexScansRow.laid ((laidWorld os).forCall (fun _ _ => 0) ⟨#[], args, []⟩).memory :=
  laidMet_of_run' 8 (by kernel_rfl) (by kernel_rfl)
end Go.Proofs.YtkiedbanobjmlaaDoor.Lx
