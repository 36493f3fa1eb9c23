/-
  The program's FlagText answers as the reference's, for all numbers.
-/
import Derived.Test.YtjdkhllkncomaaaDoorRFlag
import Derived.Test.YtjdkhllkncomaaaDoorRx4
namespace Go.Proofs.YtjdkhllkncomaaaDoor.R
open Go.RowKit Go.Proofs.YtjdkhllkncomaaaDoor Go.Proofs.YtjdkhllkncomaaaDoorW.PrintWords Go.Proofs.YtjdkhllkncomaaaDoorW.PrintLast Go.Proofs.YtjdkhllkncomaaaDoorW.PrintMore

theorem FlagText_pure (l n e : Int) (h0 : 0 ≤ e) (h1 : e < 4294967296) : laws_FnExactFlagText.f 100 l n e = some true := by
  unfold laws_FnExactFlagText.f laws_toFlag.f laws_toGraph.f
  simp only [Option.bind_some]
  rw [fltext_ref l n e _ h0 h1 (by omega)]
  simp only [Option.bind_some]
  unfold impl_FlagText.f
  rw [fok_prog l n e h0 h1]
  simp only [Option.bind_some]
  by_cases hv : vfl l n e = true
  · rw [if_pos hv, if_pos hv, fltext_prog l n e _ hv (by omega)]
    simp only [Option.bind_some]
    rw [if_pos trivial]
  · rw [if_neg hv, if_neg hv]
    simp only [Option.bind_some]
    exact if_pos rfl

end Go.Proofs.YtjdkhllkncomaaaDoor.R
