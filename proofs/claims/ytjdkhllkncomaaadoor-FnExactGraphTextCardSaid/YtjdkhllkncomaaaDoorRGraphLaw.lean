/-
  The program's text of a graph is the reference's, for all numbers.
-/
import Derived.Test.YtjdkhllkncomaaaDoorRGraph
import Derived.Test.YtjdkhllkncomaaaDoorRx4
namespace Go.Proofs.YtjdkhllkncomaaaDoor.R
open Go.RowKit Go.Proofs.YtjdkhllkncomaaaDoor Go.Proofs.YtjdkhllkncomaaaDoorW.PrintWords Go.Proofs.YtjdkhllkncomaaaDoorW.PrintLast Go.Proofs.YtjdkhllkncomaaaDoorW.PrintMore

theorem GraphText_pure (n e : Int) (h0 : 0 ≤ e) (h1 : e < 4294967296) : laws_FnExactGraphText.f 100 n e = some true := by
  unfold laws_FnExactGraphText.f laws_toGraph.f
  simp only [Option.bind_some]
  rw [gtext_ref n e _ h0 h1 (by omega)]
  simp only [Option.bind_some]
  unfold impl_GraphText.f
  rw [gok_prog n e h0 h1]
  simp only [Option.bind_some]
  by_cases hv : vg n e = true
  · have hb := (vg_iff n e).1 hv
    rw [if_pos hv, if_pos hv, gtext_prog n e _ hb.1 hb.2.1 (by omega)]
    simp only [Option.bind_some]
    rw [if_pos trivial]
  · rw [if_neg hv, if_neg hv]
    simp only [Option.bind_some]
    exact if_pos rfl

end Go.Proofs.YtjdkhllkncomaaaDoor.R
