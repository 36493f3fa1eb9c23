/-
  What the rows share whose lists name the table of powers of ten and no errors, over the texts that ask the table alone (WideT).
-/
import Derived.Test.YtjdkhllkncomaaaDoorBaseS
import Derived.Test.YtjdkhllkncomaaaDoorPrimT
namespace Go.Proofs.YtjdkhllkncomaaaDoor
open Go.RowKit
namespace WideBase

/-- The three tables that such rows list. -/
abbrev laid3 : List (String × DataW Unit) := [("math/bits.deBruijn32tab", Rows.laid_math_bits_deBruijn32tab), ("math/bits.deBruijn64tab", Rows.laid_math_bits_deBruijn64tab), ("internal/strconv.uint64pow10", Rows.laid_internal_strconv_uint64pow10)]

theorem tabT_of_laid3 {W : World} (h : laidMetH Tryd.prog laid3 W) : WideT.TabT W := by
  rw [MakeChecks.laidMetH_plain _ _ _ (by kernel_rfl)] at h
  exact Lib.tabIs_of_head (rest := []) gPow gPowType Tryd.underlying225 Tryd.underlying191 cellsU64 cellsPow h.tail.tail

theorem door_met3 (os : Os) (args : Array Value) : laidMetH Tryd.prog laid3 ((World.doorLaid Tryd.prog 72 os).forCall (fun _ _ => 0) ⟨#[], args, []⟩).memory :=
  laidMetH_of_parts3 (fuel := 8) (laidMet_of_run' 8 (by kernel_rfl) (by kernel_rfl)) (by kernel_rfl) (by kernel_rfl)

end WideBase
end Go.Proofs.YtjdkhllkncomaaaDoor
