import Derived.Test.YtkemhmfdooghkaaGreatDoorCards
import Derived.Test.YtkemhmfdooghkaaGreatDoorTie
import Derived.Test.YtkemhmfdooghkaaGreatDoorX46
import Derived.Lib.LaidTab
import Derived.Stop.LaidErr
set_option linter.unusedSimpArgs false
set_option linter.unusedVariables false
set_option maxRecDepth 100000
set_option maxHeartbeats 6400000
namespace Go.Proofs.YtkemhmfdooghkaaGreatDoor
namespace Un
open Go.RowKit
open Lx (EnvS)
theorem gSyn : Tryz.prog.globalNamed "strconv.ErrSyntax" = some 0 := by kernel_rfl
theorem gSynType : (Tryz.prog.globals[0]?).map (·.type) = some 128 := by kernel_rfl
theorem gRan : Tryz.prog.globalNamed "strconv.ErrRange" = some 1 := by kernel_rfl
theorem gRanType : (Tryz.prog.globals[1]?).map (·.type) = some 128 := by kernel_rfl
theorem cellsErr : Tryz.prog.cellsOf 171 = 1 := by kernel_rfl
theorem cellsStr : Tryz.prog.cellsOf 9 = 1 := by kernel_rfl
theorem star : "*" ++ "errors.errorString" = "*errors.errorString" := by decide
theorem rowErr (u : TypeId) (h : Tryz.prog.typeName? 3 u = some "*errors.errorString") : u = 169 :=
 typeName_ptr_named (nm := "errors.errorString") (by rw [star]; kernel_rfl) (by kernel_rfl) (by decide) u (by rw [star]; exact h)
theorem cell_of_var {P : Program} {w : World} {name : String} {g : Nat} {v : Value} (hg : P.globalNamed name = some g) (h : w.var? P name = some #[v]) : w.cell? ⟨g, 0, none⟩ = some v := by
 unfold World.var? at h
 rw [hg] at h
 simp only [Option.bind_some] at h
 unfold World.cell?
 split at h
 ·rename_i cs t fz hb
  injection h with h
  subst h
  rw [hb]
  rfl
 ·cases h
theorem envS {W : World} (h : laidMetH Tryz.prog Rows.unitNamesRow.laid W) (hS : W.ShapedOpen Tryz.prog) : EnvS W := by
 have h' : laidMet Tryz.prog [("math/bits.deBruijn32tab", Rows.laid_math_bits_deBruijn32tab), ("math/bits.deBruijn64tab", Rows.laid_math_bits_deBruijn64tab), ("internal/strconv.uint64pow10", Rows.laid_internal_strconv_uint64pow10), ("strconv.ErrRange", Rows.laid_strconv_ErrRange), ("strconv.ErrSyntax", Rows.laid_strconv_ErrSyntax)] W := h
 have h3 := h'.tail.tail
 obtain ⟨a, s, ha, _⟩ := laid_sentinel h3.tail gRan gRanType Tryz.underlying128 rowErr Tryz.underlying169 Tryz.underlying171 rfl rfl Tryz.underlying9 cellsErr cellsStr
 obtain ⟨b, s', hb, _⟩ := laid_sentinel h3.tail.tail gSyn gSynType Tryz.underlying128 rowErr Tryz.underlying169 Tryz.underlying171 rfl rfl Tryz.underlying9 cellsErr cellsStr
 exact ⟨Tryz.laysM144.s1_3 W hS, ⟨_, _, cell_of_var gSyn hb⟩, ⟨_, _, cell_of_var gRan ha⟩⟩
def litCells : DataW Unit → Array Value
 | .agg l => (l.map fun | .lit (.int k z) => Value.int k z | _ => .bool false).toArray
 | _ => #[]
def put (cs : Array Value) : Obj → Obj
 | .cells _ t frozen => .cells cs t frozen
 | o => o
noncomputable def low : Nat := (World.holding Tryz.prog default ⟨#[], #[], []⟩).heap.size
def dtxt : DataW Unit → ByteArray
 | .iface _ (.ptr (.agg [.lit (.string l)])) => ⟨l.toArray⟩
 | _ => ⟨#[]⟩
noncomputable def witBlocks : Array Obj := #[.cells #[.string (dtxt Rows.laid_strconv_ErrSyntax)] 171, .cells #[.string (dtxt Rows.laid_strconv_ErrRange)] 171]
noncomputable def laidWorld (os : Os) : World :=
 { World.holding Tryz.prog os ⟨witBlocks, #[], []⟩ with heap := (((((World.holding Tryz.prog os ⟨witBlocks, #[], []⟩).heap.modify 0 (put #[.iface 169 (.pointer (some ⟨low, 0, none⟩))])).modify 1 (put #[.iface 169 (.pointer (some ⟨low + 1, 0, none⟩))])).modify 3 (put (litCells Rows.laid_internal_strconv_uint64pow10))).modify 4 (put (litCells Rows.laid_math_bits_deBruijn32tab))).modify 5 (put (litCells Rows.laid_math_bits_deBruijn64tab)) }
theorem laid_met (os : Os) (args : Array Value) : laidMet Tryz.prog Rows.unitNamesRow.laid ((laidWorld os).forCall (fun _ _ => 0) ⟨#[], args, []⟩).memory :=
 laidMet_of_run' 8 (by kernel_rfl) (by kernel_rfl)
end Un
end Go.Proofs.YtkemhmfdooghkaaGreatDoor
