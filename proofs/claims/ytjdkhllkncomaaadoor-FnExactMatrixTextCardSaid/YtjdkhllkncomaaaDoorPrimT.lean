/-
  strconv.FormatInt in the printed form, where the table of powers of ten alone is known to lie in memory (rows whose list has no errors).
-/
import Derived.Test.YtjdkhllkncomaaaDoorPrimG
namespace Go.Proofs.YtjdkhllkncomaaaDoor
open Go.RowKit Go.Proofs.YtjdkhllkncomaaaDoorW.PrintWords
namespace WideT

/-- The table of powers of ten lies in memory. -/
def TabT (w : World) : Prop := Lib.TabIs Tryd.prog w "internal/strconv.uint64pow10" .u64 Lib.pow10Tab

theorem tabT_below {w w' : World} (h : TabT w) (hb : Below w.heap.size w w') : TabT w' :=
  Joins.tab_stays (g := 3) (by kernel_rfl) h hb (Nat.le_refl _)

theorem szL (a : Array UInt8) : (⟨a⟩ : ByteArray).size = a.size := rfl

def strconv_FormatInt.f (a0 a1 : Int) : Option ByteArray :=
  if a1 = 10 ∧ -9223372036854775808 ≤ a0 ∧ a0 ≤ 9223372036854775807 then some ⟨(Lib.itoa a0).toArray⟩ else none

theorem strconv_FormatInt.calls (a0 a1 : Int) (r : ByteArray) (w : World) (h : strconv_FormatInt.f a0 a1 = some r) (hT : TabT w) :
    Calls Tryd.prog 100 #[.int .i64 a0, .int .i64 a1] w fun e w' => e = .returned (.string r) ∧ Below w.heap.size w w' := by
  unfold strconv_FormatInt.f at h
  split at h
  · rename_i hc
    obtain ⟨rfl, h0, h1⟩ := hc
    obtain rfl := Option.some.inj h
    refine (Tryd.strconv_FormatInt_10 a0 h0 h1 w hT).mono ?_
    rintro e w' ⟨rfl, k, os, rfl⟩
    exact ⟨rfl, Lib.below_grow _ _ (Nat.le_refl _) _ _⟩
  · cases h

end WideT
end Go.Proofs.YtjdkhllkncomaaaDoor
