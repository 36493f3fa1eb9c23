/-
  The program's reader of fractions answers as the reference's, at every text.
-/
import Derived.Test.YtjdkhllkncomaaaDoorSRead
namespace Go.Proofs.YtjdkhllkncomaaaDoor.S
open Go.RowKit Go.Proofs.YtjdkhllkncomaaaDoor Go.Proofs.YtjdkhllkncomaaaDoor.Wide Go.Proofs.YtjdkhllkncomaaaDoorW.PrintWords Go.Proofs.YtjdkhllkncomaaaDoorW.PrintLast Go.Proofs.YtjdkhllkncomaaaDoorW.PrintMore

theorem ReadFraction_pure (s : ByteArray) : laws_FnExactReadFraction.f 1000000300 s = some true := by
  obtain ⟨l, rfl⟩ : ∃ l, s = str l := ⟨_, (str_eq s).symm⟩
  unfold laws_FnExactReadFraction.f
  rw [str_size]
  by_cases hl : ((l.length : Nat) : Int) > 1048576
  · rw [if_pos hl]
  · rw [if_neg hl]
    have h1 := readf_ref l 1000000300 (by omega) (by omega)
    have h2 := readf_prog l 1000000300 (by omega) (by omega)
    by_cases hx : ∃ p q, vf p q = true ∧ ftext p q = l
    · obtain ⟨p, q, hv, ht⟩ := hx
      rw [h1.1 p q hv ht, h2.1 p q hv ht]
      simp [laws_eqFraction.f]
    · rw [h1.2 hx, h2.2 hx]
      simp [laws_eqFraction.f]

end Go.Proofs.YtjdkhllkncomaaaDoor.S
