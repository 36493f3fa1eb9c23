/-
  The program's text of a fraction is the reference's, for all numbers.
-/
import Derived.Test.YtjdkhllkncomaaaDoorNum
import Derived.Test.YtjdkhllkncomaaaDoorQx2
namespace Go.Proofs.YtjdkhllkncomaaaDoor.Q
open Go.RowKit Go.Proofs.YtjdkhllkncomaaaDoor Go.Proofs.YtjdkhllkncomaaaDoorW.PrintWords Go.Proofs.YtjdkhllkncomaaaDoorW.PrintLast Go.Proofs.YtjdkhllkncomaaaDoorW.PrintMore

theorem decimal_prog (n : Int) (h0 : -9223372036854775808 ≤ n) (h1 : n ≤ 9223372036854775807) : impl_decimal.f n = some (str (Lib.itoa n)) := by
  unfold impl_decimal.f
  rw [dec_prog n h0 h1]
  rfl

/-- The program's text of a fraction that is valid. -/
theorem ftext_prog (p q : Int) (h : vf p q = true) : impl_Fraction_text.f p q = some (str (ftext p q)) := by
  have hb := (vf_iff p q).1 h
  have hql := itoa_len q (by omega) (by omega)
  have hpl := itoa_len p (by omega) (by omega)
  unfold impl_Fraction_text.f ftext
  rw [decimal_prog p (by omega) (by omega), decimal_prog q (by omega) (by omega)]
  simp only [Option.bind_some]
  have e47 : (⟨#[47]⟩ : ByteArray) = str [47] := rfl
  rw [e47]
  simp only [str_append, str_size]
  by_cases h1 : q = 1
  · rw [if_pos h1, if_pos h1]
  · rw [if_neg h1, if_neg h1, if_pos (by omega), if_pos (by simp; omega)]
    simp

theorem text_prog (p q : Int) (k : Nat) (hk : 1000000000 < k) : impl_FractionText.f k p q = some (if vf p q = true then str (ftext p q) else str []) := by
  unfold impl_FractionText.f
  rw [ok_prog p q k hk]
  simp only [Option.bind_some]
  by_cases hv : vf p q = true
  · rw [if_pos hv, if_pos hv, ftext_prog p q hv]; rfl
  · rw [if_neg hv, if_neg hv]; rfl

theorem FractionText_pure (p q : Int) : laws_FnExactFractionText.f 1000000001 p q = some true := by
  unfold laws_FnExactFractionText.f laws_toFraction.f
  simp only [Option.bind_some]
  rw [text_ref p q _ (by omega), text_prog p q _ (by omega)]
  simp only [Option.bind_some]
  rw [if_pos trivial]

end Go.Proofs.YtjdkhllkncomaaaDoor.Q
