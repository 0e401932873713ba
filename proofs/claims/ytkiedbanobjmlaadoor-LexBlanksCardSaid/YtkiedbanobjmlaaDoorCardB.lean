/- Card0's facts under the names that mkcard2.py asks for. -/
import Derived.Test.YtkiedbanobjmlaaDoorCard0
namespace Go.Proofs.YtkiedbanobjmlaaDoor.Lx
open Go.RowKit
open Pl
abbrev EnvW (w : World) : Prop := EnvJ w
theorem envW {W : World} (h : laidMetH Tryd.prog Rows.lexScansRow.laid W) (hS : W.ShapedOpen Tryd.prog) : EnvW W := envJ h hS
end Go.Proofs.YtkiedbanobjmlaaDoor.Lx
