/-
  What the rows of this seat share: the listed table of powers of ten lies in memory; a start that meets the list.
-/
import Derived.Test.YtjdkhllkncomaaaDoorPrim
import Derived.Test.YtjdkhllkncomaaaDoorRows
import Derived.Test.YtjdkhllkncomaaaDoorCards
import Derived.Test.YtjdkhllkncomaaaDoorTie
import Derived.WalkKit
import Derived.ProofKit
import Derived.OpenShut
import Derived.LaidMore
import Derived.Lib.LaidTab
import Derived.Lib.SmallJoins
import Derived.Stop.LaidErr
namespace Go.Proofs.YtjdkhllkncomaaaDoor
open Go.RowKit

theorem own : ownKnob Tryd.prog.godebug = none := by kernel_rfl
theorem laidOut : laidOutB Tryd.prog = true := by kernel_rfl
theorem gPow : Tryd.prog.globalNamed "internal/strconv.uint64pow10" = some 3 := by kernel_rfl
theorem gPowType : (Tryd.prog.globals[3]?).map (·.type) = some 225 := by kernel_rfl
theorem cells225 : Tryd.prog.cellsOf 225 = 20 := by kernel_rfl
theorem cells191 : Tryd.prog.cellsOf 191 = 1 := by kernel_rfl

/-- The three tables that the first rows list. -/
abbrev laid3 : List (String × DataW Unit) := Rows.fnExactFractionTextRow.laid

theorem tabT_of_laid {W : World} (h : laidMetH Tryd.prog laid3 W) : TabT W := by
  rw [MakeChecks.laidMetH_plain _ _ _ (by kernel_rfl)] at h
  exact Lib.tabIs_of_head (rest := []) gPow gPowType Tryd.underlying225 Tryd.underlying191 cells191 cells225 h.tail.tail

theorem door_met (os : Os) (args : Array Value) : laidMetH Tryd.prog laid3 ((World.doorLaid Tryd.prog 72 os).forCall (fun _ _ => 0) ⟨#[], args, []⟩).memory :=
  laidMetH_of_parts3 (fuel := 8) (laidMet_of_run' 8 (by kernel_rfl) (by kernel_rfl)) (by kernel_rfl) (by kernel_rfl)

end Go.Proofs.YtjdkhllkncomaaaDoor
